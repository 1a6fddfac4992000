/- Texts of this seat, one behind the other: BldP, BldQ, BldR, PrW, PrtI, PrtK. -/
import Derived.Test.YtchldahkcpbgcaaGreatDoorsk3
import Derived.Test.YtchldahkcpbgcaaGreatDoorProg
import Derived.Shelf.Strings.BuilderK
import Derived.Outline
import Derived.Lib.FrozenHead2
import Derived.Lib.OthersKept
import Derived.Test.YtchldahkcpbgcaaGreatDoorsk5
import Derived.Test.YtchldahkcpbgcaaGreatDoorsk1
namespace Go.Proofs.YtchldahkcpbgcaaGreatDoor
set_option linter.unusedVariables false

/- strings.Builder within a lang.printer: the block is a printer's, the address the same. -/
section
open Go.RowKit
set_option linter.unusedSimpArgs false
theorem prt_lies : liesAt Tryz.prog Tryz.prog.depth 110 (2 / Tryz.prog.cellsOf 110) 0 108 1 = true := by kernel_rfl
set_option maxHeartbeats 1000000 in
set_option maxRecDepth 100000 in
theorem copyCheck_usedP (b : Nat) (w : World) (h0 : w.cell? ⟨b, 0, none⟩ = some (.pointer (some ⟨b, 0, none⟩))) :
  Calls Tryz.prog 145 #[.pointer (some ⟨b, 0, none⟩)] w fun e w' => e = .returned (.tuple #[]) ∧ w' = w := by
 obtain ⟨j, hj, _⟩ := Option.map_eq_some_iff.1 bld_size
 go_enter Tryz.func145, Tryz.ntmps145
 go_wp2
 rw [Lib.run_neq_ptr_same w _ Tryz.underlying106 hj]
 go_wp2
 go_end0
 exact ⟨rfl, rfl⟩
set_option maxHeartbeats 1000000 in
set_option maxRecDepth 100000 in
theorem copyCheck_freshP (b : Nat) (w : World) (h0 : w.cell? ⟨b, 0, none⟩ = some (.pointer none)) (hsh : w.shape? b = some (110, 2)) (hfz : w.frozen? ⟨b, 0, none⟩ = false) :
  Calls Tryz.prog 145 #[.pointer (some ⟨b, 0, none⟩)] w fun e w' => e = .returned (.tuple #[]) ∧ w' = w.setCell ⟨b, 0, none⟩ (.pointer (some ⟨b, 0, none⟩)) := by
 obtain ⟨j, hj, hjs⟩ := Option.map_eq_some_iff.1 bld_size
 go_enter Tryz.func145, Tryz.ntmps145
 go_wp2
 rw [Lib.run_to_unsafe w ⟨b, 0, none⟩ Tryz.underlying106 Tryz.underlying240 hj (by rw [hjs]; decide) hsh (Nat.zero_lt_succ 1)]
 simp only [Result.andThen]
 rw [Oper.upon_value]
 go_wp2
 rw [run_callFunc_extern Tryz.func192 (by kernel_rfl) (by kernel_rfl) (by kernel_rfl) (e := Extern.AbiNoEscape.same) (by kernel_rfl)]
 rw [Lib.run_noEscape]
 simp only [Result.andThen]
 rw [Oper.upon_value]
 go_wp2
 rw [Lib.run_from_unsafe w ⟨b, 0, none⟩ Tryz.underlying240 Tryz.underlying106 hj hsh prt_lies]
 simp only [Result.andThen]
 rw [Oper.upon_value]
 go_wp2
 go_end0
 exact ⟨rfl, rfl⟩
theorem copyCheck_anyP (B b : Nat) (bs : List Value) (w : World) (h : Lib.IsBuilderF 110 5 B b bs w) :
  Calls Tryz.prog 145 #[.pointer (some ⟨b, 0, none⟩)] w fun e w' => e = .returned (.tuple #[]) ∧ (Lib.BuilderAtF 110 5 B b (.pointer (some ⟨b, 0, none⟩)) bs w' ∧ Below B w w' ∧ Lib.OthersKept 5 (some b) w w') := by
 rcases h with h | h
 ·refine (copyCheck_freshP b w h.cell0 h.shape h.frozen0).mono ?_
  rintro e w' ⟨rfl, rfl⟩
  exact ⟨rfl, h.used _, (Below.refl B w).setCell (p := ⟨b, 0, none⟩) h.1 _, (Lib.OthersKept.refl _ _ w).setCell ⟨b, 0, none⟩ rfl _⟩
 ·refine (copyCheck_usedP b w h.cell0).mono ?_
  rintro e w' ⟨rfl, rfl⟩
  exact ⟨rfl, h, Below.refl B _, Lib.OthersKept.refl _ _ _⟩
set_option maxHeartbeats 2000000 in
set_option maxRecDepth 100000 in
theorem WriteString_anyP (B b : Nat) (bs : List Value) (s : ByteArray) (w : World) (h : Lib.IsBuilderF 110 5 B b bs w) (hlen : bs.length + s.size ≤ 140737488355328) (hBw : B ≤ w.heap.size) :
  Calls Tryz.prog 88 #[.pointer (some ⟨b, 0, none⟩), .string s] w fun e w' => e = .returned (.tuple #[.int .i64 s.size, .nilIface]) ∧ (Lib.BuilderAtF 110 5 B b (.pointer (some ⟨b, 0, none⟩)) (bs ++ Lib.strCells s) w' ∧ Below B w w' ∧ Lib.OthersKept 5 (some b) w w') := by
 obtain ⟨i0, hi, hz0, hz1, hz2⟩ := info_parts bld_byte
 go_enter Tryz.func88, Tryz.ntmps88
 go_wp2_with fail
 refine (copyCheck_anyP B b bs _ h).mono ?_
 rintro e w1 ⟨rfl, h1, hb1, hk1⟩
 obtain ⟨hB, v, hbk, hown, hne⟩ := h1
 have c0 : w1.cell? ⟨b, 0, none⟩ = some (.pointer (some ⟨b, 0, none⟩)) := by rw [Lib.cell_of_heap hbk]; rfl
 have c1 : w1.cell? ⟨b, 1, none⟩ = some v := by rw [Lib.cell_of_heap hbk]; rfl
 go_wp2_with (at_builtin; refine Lib.wpList_append_own_stringF _ rfl _ _ 82 9 rfl B 5 i0 Tryz.underlying82 Tryz.underlying9 hi hz0 hz1 hz2 _ _ _ rfl hown s rfl ?c3 ?c4 ?c5 ?_)
 case c3 => unfold maxLen; omega
 case c4 => omega
 case c5 => have := hb1.size; omega
 intro v' w2 hown' hgrow _
 have hlt : b < w1.heap.size := by
  rcases Nat.lt_or_ge b w1.heap.size with h' | h'
  ·exact h'
  ·simp [Array.getElem?_eq_none h'] at hbk
 have hb2 : w2.heap[b]? = some (.cells #[.pointer (some ⟨b, 0, none⟩), v] 110 (0, 0)) := by
  rw [hgrow.block b hlt (fun e => hne e.symm)]
  exact hbk
 have d0 : w2.cell? ⟨b, 0, none⟩ = some (.pointer (some ⟨b, 0, none⟩)) := by rw [Lib.cell_of_heap hb2]; rfl
 have d1 : w2.cell? ⟨b, 1, none⟩ = some v := by rw [Lib.cell_of_heap hb2]; rfl
 have f1 : w2.frozen? ⟨b, 1, none⟩ = false := Lib.frozen_of_heap hb2 1
 obtain ⟨ao, n', cap, rfl⟩ : ∃ ao n' cap, v' = .slice ao n' cap := by
  rcases hown'.2 with ⟨hv, _⟩ | ⟨g, cap, cur, fz, hv, _⟩
  ·exact ⟨_, _, _, hv⟩
  ·exact ⟨_, _, _, hv⟩
 go_wp2
 go_ret2
 refine ⟨rfl, ?_, ?_, (hk1.grown hgrow (Lib.ownsRowF_kind hown)).setCell ⟨b, 1, none⟩ rfl _⟩
 ·exact Lib.BuilderAtF.put (T := 110) (e := 5) hB hb2 (bs' := bs ++ Lib.strCells s) (by simpa [Lib.strCells_length] using hown') (by decide)
 ·exact (hb1.grown hgrow (by have := hb1.size; omega) (fun k hk => (hown.lt k hk).1)).setCell (p := ⟨b, 1, none⟩) hB _
end

/- WriteByte and Len of a printer's builder. -/
section
open Go.RowKit
set_option linter.unusedSimpArgs false
set_option maxHeartbeats 2000000 in
set_option maxRecDepth 100000 in
theorem Prt_WriteByte_k (B b : Nat) (bs : List Value) (c : Int) (w : World) (h : Lib.IsBuilderF 110 5 B b bs w) (hlen : bs.length + 1 ≤ 140737488355328) (hBw : B ≤ w.heap.size) :
  Calls Tryz.prog 159 #[.pointer (some ⟨b, 0, none⟩), .int .u8 c] w fun e w' => e = .returned .nilIface ∧ (Lib.BuilderAtF 110 5 B b (.pointer (some ⟨b, 0, none⟩)) (bs ++ [.int .u8 c]) w' ∧ Below B w w' ∧ Lib.OthersKept 5 (some b) w w') := by
 obtain ⟨i0, hi, hz0, hz1, hz2⟩ := info_parts bld_byte
 go_enter Tryz.func159, Tryz.ntmps159
 go_wp2_with (refine (copyCheck_anyP B b bs _ h).mono ?_)
 rintro e w1 ⟨rfl, h1, hb1, hk1⟩
 obtain ⟨hB, v, hbk, hown, hne⟩ := h1
 have c0 : w1.cell? ⟨b, 0, none⟩ = some (.pointer (some ⟨b, 0, none⟩)) := by rw [Lib.cell_of_heap hbk]; rfl
 have c1 : w1.cell? ⟨b, 1, none⟩ = some v := by rw [Lib.cell_of_heap hbk]; rfl
 go_wp2_with (at_builtin; refine wpList_append_ownF _ rfl _ _ 82 rfl B 5 i0 (.int .u8 0) 1 1 Tryz.underlying82 hi hz0 hz1 hz2 rfl (by decide) _ _ _ rfl (hown.alloc _) ⟨w1.heap.size, 0, none⟩ 1 1 [.int .u8 c] rfl rfl ?c1 ?c2 ?c3 ?c4 ?c5 ?_)
 case c1 =>
  intro j u hj
  match j, hj with
  | 0, hj => simp at hj; subst hj; simp [Addr.add]
 case c2 => intro u hu; simp at hu; subst hu; rfl
 case c3 => unfold maxLen; omega
 case c4 => omega
 case c5 => have := hb1.size; simp; omega
 intro v' w2 hown' hgrow _
 have hlt : b < w1.heap.size := by
  rcases Nat.lt_or_ge b w1.heap.size with h' | h'
  ·exact h'
  ·simp [Array.getElem?_eq_none h'] at hbk
 have hb2 : w2.heap[b]? = some (.cells #[.pointer (some ⟨b, 0, none⟩), v] 110 (0, 0)) := by
  rw [hgrow.block b (by simp; omega) (fun e => hne e.symm), Lib.alloc_old w1 _ b hlt]
  exact hbk
 have d0 : w2.cell? ⟨b, 0, none⟩ = some (.pointer (some ⟨b, 0, none⟩)) := by rw [Lib.cell_of_heap hb2]; rfl
 have d1 : w2.cell? ⟨b, 1, none⟩ = some v := by rw [Lib.cell_of_heap hb2]; rfl
 have f1 : w2.frozen? ⟨b, 1, none⟩ = false := Lib.frozen_of_heap hb2 1
 obtain ⟨g, cap, rfl⟩ : ∃ g cap, v' = .slice (some ⟨g, 0, none⟩) (bs.length + 1) cap := by
  rcases hown'.2 with ⟨_, h0⟩ | ⟨g, cap, cur, fz, hv, _⟩
  ·omega
  ·exact ⟨g, cap, hv⟩
 go_wp2
 go_ret
 refine ⟨rfl, ?_, ?_, ((hk1.alloc _).grown hgrow (Lib.ownsRowF_kind (hown.alloc _))).setCell ⟨b, 1, none⟩ rfl _⟩
 ·exact Lib.BuilderAtF.put (T := 110) (e := 5) hB hb2 (bs' := bs ++ [.int .u8 c]) (by simpa using hown') (by decide)
 ·exact ((hb1.alloc (by have := hb1.size; omega) _).grown hgrow (by have := hb1.size; simp; omega) (fun k hk => (hown.lt k hk).1)).setCell (p := ⟨b, 1, none⟩) hB _
set_option maxHeartbeats 2000000 in
set_option maxRecDepth 100000 in
theorem Prt_Len_f (B b : Nat) (bs : List Value) (w : World) (h : Lib.IsBuilderF 110 5 B b bs w) :
  Calls Tryz.prog 91 #[.pointer (some ⟨b, 0, none⟩)] w fun e w' => e = .returned (.int .i64 bs.length) ∧ w' = w := by
 obtain ⟨p, hB, v, hbk, hown, hne⟩ : ∃ p, Lib.BuilderAtF 110 5 B b p bs w := by
  rcases h with h | h
  ·exact ⟨_, h⟩
  ·exact ⟨_, h⟩
 obtain ⟨ao, cap, rfl⟩ : ∃ ao cap, v = .slice ao bs.length cap := by
  rcases hown.2 with ⟨hv, h0⟩ | ⟨g, cap, cur, fz, hv, _⟩
  ·exact ⟨none, 0, by rw [hv, h0]⟩
  ·exact ⟨_, _, hv⟩
 have c1 : w.cell? ⟨b, 1, none⟩ = some (.slice ao bs.length cap) := by rw [Lib.cell_of_heap hbk]; rfl
 go_enter Tryz.func91, Tryz.ntmps91
 go_wp2
 go_ret
 exact ⟨rfl, rfl⟩
end

/- String of a printer's builder. -/
section
open Go.RowKit
set_option linter.unusedSimpArgs false
theorem bld_cells : Tryz.prog.cellsOf 5 = 1 := by kernel_rfl
theorem us_none (W : World) (q : Option Addr) : (Builtin.unsafeString_ #[203, 3] 9 #[.pointer q, .int .i64 0]).run Tryz.prog W = .ok (.string .empty) W := Lib.run_unsafeString_none W _ _ _ q
set_option maxHeartbeats 2000000 in
set_option maxRecDepth 100000 in
theorem Prt_String_f (B b : Nat) (l : List UInt8) (w : World) (h : Lib.IsBuilderF 110 5 B b (Lib.byteCells l) w) (h0 : l ≠ []) :
  Calls Tryz.prog 92 #[.pointer (some ⟨b, 0, none⟩)] w fun e w' => e = .returned (.string ⟨l.toArray⟩) ∧ (Lib.IsBuilderF 110 5 B b (Lib.byteCells l) w' ∧ Below B w w') := by
 obtain ⟨p, hp, hAt⟩ : ∃ p, (p = .pointer none ∨ p = .pointer (some ⟨b, 0, none⟩)) ∧ Lib.BuilderAtF 110 5 B b p (Lib.byteCells l) w := by
  rcases h with h | h
  ·exact ⟨_, .inl rfl, h⟩
  ·exact ⟨_, .inr rfl, h⟩
 obtain ⟨hB, v, hbk, hown, hne⟩ := hAt
 have hl0 : l.length ≠ 0 := by simpa using h0
 rw [Lib.byteCells_length] at hown
 obtain ⟨g, cap, cur, fz, rfl, hbg, hg, hfz, hnc, hcm, hcs, htake⟩ : ∃ g cap cur fz, v = .slice (some ⟨g, 0, none⟩) l.length cap ∧ B ≤ g ∧ w.heap[g]? = some (.cells cur 5 fz) ∧ fz.2 ≤ l.length * 1 ∧ l.length ≤ cap ∧ cap ≤ maxLen ∧ cur.size = cap * 1 ∧ cur.toList.take (l.length * 1) = Lib.byteCells l := by
  rcases hown.2 with ⟨_, hz⟩ | ⟨g, cap, cur, fz, hv, r⟩
  ·exact absurd hz hl0
  ·exact ⟨g, cap, cur, fz, hv, r⟩
 have c1 : w.drew.cell? ⟨b, 1, none⟩ = some (.slice (some ⟨g, 0, none⟩) l.length cap) := by
  have : w.drew.heap[b]? = some (.cells #[p, .slice (some ⟨g, 0, none⟩) l.length cap] 110 (0, 0)) := hbk
  rw [Lib.cell_of_heap this]; rfl
 have hSD : (Builtin.unsafeSliceData_ #[82] 203 #[.slice (some ⟨g, 0, none⟩) l.length cap]).run Tryz.prog w.drew = .ok (.pointer (some ⟨g, 0, none⟩)) w.drew :=
  Lib.run_unsafeSliceData_row _ _ _ _ _ _ (by omega)
 have hUS : (Builtin.unsafeString_ #[203, 3] 9 #[.pointer (some ⟨g, 0, none⟩), .int .i64 l.length]).run Tryz.prog w.drew = .ok (.string ⟨l.toArray⟩) (w.drew.freeze ⟨g, 0, none⟩ l.length) := by
  refine Lib.run_unsafeString_row w.drew 203 3 9 5 Tryz.underlying203 bld_cells g cur.size (by have hg' : w.drew.heap[g]? = some (.cells cur 5 fz) := hg; simp [World.shape?, hg']) l h0 (by omega) (by unfold maxLen at hcm; omega) ?_
  intro j x hx
  have := hown.cells (g := g) rfl j (.int .u8 x.toNat) (by simp [Lib.byteCells, hx])
  exact this
 -- the builder behind the call: its bytes frozen; a builder still
 have hkeep : Lib.IsBuilderF 110 5 B b (Lib.byteCells l) (w.drew.freeze ⟨g, 0, none⟩ l.length) := by
  have hA : Lib.BuilderAtF 110 5 B b p (Lib.byteCells l) w.drew := ⟨hB, _, hbk, by rw [Lib.byteCells_length]; exact hown, hne⟩
  have hF := hA.froze (g := g) (cap := cap) (by rw [Lib.byteCells_length]; exact c1)
  rw [Lib.byteCells_length] at hF
  rcases hp with rfl | rfl
  ·exact .inl hF
  ·exact .inr hF
 have mixed : Tryz.prog.follows .mixedOrders = true := by kernel_rfl
 go_enter Tryz.func92, Tryz.ntmps92
 go_wp2
 go_region_o
 all_goals (go_wp2; go_ret; exact ⟨rfl, hkeep, Lib.below_freeze (Below.drew (Below.refl B w)) (p := ⟨g, 0, none⟩) hbg _⟩)
set_option maxHeartbeats 2000000 in
set_option maxRecDepth 100000 in
theorem Prt_String_nil_f (B b : Nat) (p : Value) (w : World) (hbk : w.heap[b]? = some (.cells #[p, .slice none 0 0] 110 (0, 0))) (hA : Lib.BuilderAtF 110 5 B b p [] w) :
  Calls Tryz.prog 92 #[.pointer (some ⟨b, 0, none⟩)] w fun e w' => e = .returned (.string ⟨#[]⟩) ∧ (Lib.BuilderAtF 110 5 B b p [] w' ∧ Below B w w') := by
 have hUS := us_none
 have c1 : w.drew.cell? ⟨b, 1, none⟩ = some (.slice none 0 0) := by
  have : w.drew.heap[b]? = some (.cells #[p, .slice none 0 0] 110 (0, 0)) := hbk
  rw [Lib.cell_of_heap this]; rfl
 have hSD : (Builtin.unsafeSliceData_ #[82] 203 #[.slice none 0 0]).run Tryz.prog w.drew = .ok (.pointer none) w.drew := rfl
 have mixed : Tryz.prog.follows .mixedOrders = true := by kernel_rfl
 go_enter Tryz.func92, Tryz.ntmps92
 go_wp2
 go_region_o
 all_goals (go_wp2; go_ret; exact ⟨rfl, hA.drew, Below.drew (Below.refl B w)⟩)
set_option maxHeartbeats 2000000 in
set_option maxRecDepth 100000 in
theorem Prt_String_noroom_f (B b g : Nat) (p : Value) (cur : Array Value) (w : World) (hBw : B ≤ w.heap.size) (hbk : w.heap[b]? = some (.cells #[p, .slice (some ⟨g, 0, none⟩) 0 0] 110 (0, 0))) (fz : Nat × Nat) (hg : w.heap[g]? = some (.cells cur 5 fz)) (hA : Lib.BuilderAtF 110 5 B b p [] w) :
  Calls Tryz.prog 92 #[.pointer (some ⟨b, 0, none⟩)] w fun e w' => e = .returned (.string ⟨#[]⟩) ∧ (Lib.BuilderAtF 110 5 B b p [] w' ∧ Below B w w') := by
 have hUS := us_none
 have hlt : b < w.heap.size := by
  rcases Nat.lt_or_ge b w.heap.size with h' | h'
  ·exact h'
  ·simp [Array.getElem?_eq_none h'] at hbk
 have c1 : w.drew.cell? ⟨b, 1, none⟩ = some (.slice (some ⟨g, 0, none⟩) 0 0) := by
  have : w.drew.heap[b]? = some (.cells #[p, .slice (some ⟨g, 0, none⟩) 0 0] 110 (0, 0)) := hbk
  rw [Lib.cell_of_heap this]; rfl
 have hSD : (Builtin.unsafeSliceData_ #[82] 203 #[.slice (some ⟨g, 0, none⟩) 0 0]).run Tryz.prog w.drew = .ok (.pointer (some ⟨w.drew.heap.size, 0, none⟩)) (w.drew.alloc (.view ⟨g, 0, none⟩ 5)) :=
  Lib.run_unsafeSliceData_zero w.drew _ _ 5 Tryz.underlying203 ⟨g, 0, none⟩ 0 (5, cur.size) (by have hg' : w.drew.heap[g]? = some (.cells cur 5 fz) := hg; simp [World.shape?, hg'])
 have c2 : (w.drew.alloc (.view ⟨g, 0, none⟩ 5)).cell? ⟨b, 1, none⟩ = some (.slice (some ⟨g, 0, none⟩) 0 0) := by
  have : (w.drew.alloc (.view ⟨g, 0, none⟩ 5)).heap[b]? = _ := (Lib.alloc_old w.drew _ b hlt).trans hbk
  rw [Lib.cell_of_heap this]; rfl
 -- (the same fact as the how-to's newer walk spells the world; and of w itself, to which the elder walk comes down)
 have c3 : (w.alloc (.view ⟨g, 0, none⟩ 5)).drew.cell? ⟨b, 1, none⟩ = some (.slice (some ⟨g, 0, none⟩) 0 0) := c2
 have c0 : w.cell? ⟨b, 1, none⟩ = some (.slice (some ⟨g, 0, none⟩) 0 0) := c1
 have mixed : Tryz.prog.follows .mixedOrders = true := by kernel_rfl
 go_enter Tryz.func92, Tryz.ntmps92
 go_wp2
 go_region_o
 all_goals (go_wp2; go_ret; exact ⟨rfl, hA.drew.alloc _, (Below.drew (Below.refl B w)).alloc hBw _⟩)
set_option maxHeartbeats 2000000 in
set_option maxRecDepth 100000 in
theorem Prt_String_room_f (B b g cap : Nat) (p : Value) (w : World) (hc0 : cap ≠ 0) (hbk : w.heap[b]? = some (.cells #[p, .slice (some ⟨g, 0, none⟩) 0 cap] 110 (0, 0))) (hA : Lib.BuilderAtF 110 5 B b p [] w) :
  Calls Tryz.prog 92 #[.pointer (some ⟨b, 0, none⟩)] w fun e w' => e = .returned (.string ⟨#[]⟩) ∧ (Lib.BuilderAtF 110 5 B b p [] w' ∧ Below B w w') := by
 have hUS := us_none
 have c1 : w.drew.cell? ⟨b, 1, none⟩ = some (.slice (some ⟨g, 0, none⟩) 0 cap) := by
  have : w.drew.heap[b]? = some (.cells #[p, .slice (some ⟨g, 0, none⟩) 0 cap] 110 (0, 0)) := hbk
  rw [Lib.cell_of_heap this]; rfl
 have hSD : (Builtin.unsafeSliceData_ #[82] 203 #[.slice (some ⟨g, 0, none⟩) 0 cap]).run Tryz.prog w.drew = .ok (.pointer (some ⟨g, 0, none⟩)) w.drew :=
  Lib.run_unsafeSliceData_row _ _ _ _ _ _ hc0
 clear hc0
 have mixed : Tryz.prog.follows .mixedOrders = true := by kernel_rfl
 go_enter Tryz.func92, Tryz.ntmps92
 go_wp2
 go_region_o
 all_goals (go_wp2; go_ret; exact ⟨rfl, hA.drew, Below.drew (Below.refl B w)⟩)
set_option maxHeartbeats 2000000 in
set_option maxRecDepth 100000 in
theorem Prt_String_empty_f (B b : Nat) (w : World) (h : Lib.IsBuilderF 110 5 B b [] w) (hBw : B ≤ w.heap.size) :
  Calls Tryz.prog 92 #[.pointer (some ⟨b, 0, none⟩)] w fun e w' => e = .returned (.string ⟨#[]⟩) ∧ (Lib.IsBuilderF 110 5 B b [] w' ∧ Below B w w') := by
 obtain ⟨p, hp, hA⟩ : ∃ p, (p = .pointer none ∨ p = .pointer (some ⟨b, 0, none⟩)) ∧ Lib.BuilderAtF 110 5 B b p [] w := by
  rcases h with h | h
  ·exact ⟨_, .inl rfl, h⟩
  ·exact ⟨_, .inr rfl, h⟩
 have fin : ∀ (e : Ending) (w' : World), (e = .returned (.string ⟨#[]⟩) ∧ (Lib.BuilderAtF 110 5 B b p [] w' ∧ Below B w w')) → e = .returned (.string ⟨#[]⟩) ∧ (Lib.IsBuilderF 110 5 B b [] w' ∧ Below B w w') := by
  rintro e w' ⟨he, hk, hb⟩
  rcases hp with rfl | rfl
  ·exact ⟨he, .inl hk, hb⟩
  ·exact ⟨he, .inr hk, hb⟩
 have hA' := hA
 obtain ⟨hB, v, hbk, hown, hne⟩ := hA
 rcases hown.2 with ⟨rfl, _⟩ | ⟨g, cap, cur, fz, rfl, hbg, hg, _, _, _, _, _⟩
 ·exact (Prt_String_nil_f B b p w hbk hA').mono fin
 ·by_cases hc0 : cap = 0
  ·subst hc0
   exact (Prt_String_noroom_f B b g p cur w hBw hbk fz hg hA').mono fin
  ·exact (Prt_String_room_f B b g cap p w hc0 hbk hA').mono fin
set_option maxHeartbeats 2000000 in
set_option maxRecDepth 100000 in
theorem Prt_String_any_f (B b : Nat) (l : List UInt8) (w : World) (h : Lib.IsBuilderF 110 5 B b (Lib.byteCells l) w) (hBw : B ≤ w.heap.size) :
  Calls Tryz.prog 92 #[.pointer (some ⟨b, 0, none⟩)] w fun e w' => e = .returned (.string ⟨l.toArray⟩) ∧ (Lib.IsBuilderF 110 5 B b (Lib.byteCells l) w' ∧ Below B w w') := by
 cases l with
 | nil => exact Prt_String_empty_f B b w h hBw
 | cons x r => exact Prt_String_f B b (x :: r) w h (by simp)
end

/- A printer that holds bytes: what its writes do. -/
section
open Go.RowKit
set_option linter.unusedSimpArgs false
def TabH (b : Nat) (w : World) : Prop := Lib.TabIs Tryz.prog w "internal/strconv.uint64pow10" .u64 Lib.pow10Tab ∧ ∀ g, Tryz.prog.globalNamed "internal/strconv.uint64pow10" = some g → g < b
theorem TabH.is {b : Nat} {w : World} (h : TabH b w) : Lib.TabIs Tryz.prog w "internal/strconv.uint64pow10" .u64 Lib.pow10Tab := h.1
theorem TabH.lt {b : Nat} {w : World} (h : TabH b w) : ∀ g, Tryz.prog.globalNamed "internal/strconv.uint64pow10" = some g → g < b := h.2
theorem TabH.block {b : Nat} {w w' : World} (h : TabH b w) (hb : ∀ k, k < b → w'.heap[k]? = w.heap[k]?) : TabH b w' := by
  refine ⟨?_, h.lt⟩
  have h1 := h.is
  unfold Lib.TabIs World.var? at *
  cases hg : Tryz.prog.globalNamed "internal/strconv.uint64pow10" with
  | none => simp [hg] at h1
  | some g =>
    simp only [hg, Option.bind_some] at h1 ⊢
    rw [hb g (h.lt g hg)]
    exact h1
theorem TabH.below {b : Nat} {w w' : World} (h : TabH b w) (hb : Below b w w') : TabH b w' := h.block hb.block
def PrW (b : Nat) (bs : Bs) (w : World) : Prop := Lib.IsBuilderF 110 5 b b (Lib.byteCells bs) w ∧ TabH b w
abbrev pat (b : Nat) : Value := .pointer (some ⟨b, 0, none⟩)
def Prs (b : Nat) (bs t : Bs) (w : World) (en : Ending) (w' : World) : Prop := en = .returned (.tuple #[]) ∧ PrW b (bs ++ t) w' ∧ Below b w w'
abbrev upB (b : Nat) : Nat → Prop := fun k => b ≤ k
section
variable {b : Nat} {bs t : Bs} {w w' w1 : World}
theorem PrW.lt (h : PrW b bs w) : b < w.heap.size := h.1.elim (fun x => x.lt) (fun x => x.lt)
theorem PrW.drewN (h : PrW b bs w) (n : Nat) : PrW b bs (w.drewN n) := h
theorem PrW.alloc (h : PrW b bs w) (o : Obj) : PrW b bs (w.alloc o) := ⟨Lib.IsBuilderF.alloc h.1 o, h.2.below ((Below.refl b w).alloc (Nat.le_of_lt h.lt) o)⟩
theorem LN.below {n c : Nat} {A : Option Addr} {l : List Nd} (h : LN (upB b) n w A c l) (hb : Below b w w') : LN (upB b) n w' A c l :=
 LN.imp (fun _ _ h => h) (fun p u hp h1 => by rw [hb.cell (Nat.lt_of_not_le hp)]; exact h1) (Nat.le_refl _) h
theorem NdH.below {n : Nat} {h : HdN} {x : Nd} (hx : NdH (upB b) n w h x) (hb : Below b w w') : NdH (upB b) n w' h x :=
 hx.imp (Nat.le_refl _) (fun _ _ h => h) fun p u hp h1 => by rw [hb.cell (Nat.lt_of_not_le hp)]; exact h1
theorem NdAt.below {k o : Nat} {h : HdN} {x : Nd} (hx : NdAt w k o x h) (hb : Below b w w') (hk : k < b) : NdAt w' k o x h :=
 hx.imp fun p u hp h1 => by rw [hb.cell (by rw [hp]; exact hk)]; exact h1
theorem RdS.below {α : Type} {enc : α → Value} {A : Option Addr} {c : Nat} {xs : List α} (hx : RdS (upB b) w enc A c xs) (hb : Below b w w') : RdS (upB b) w' enc A c xs :=
 hx.imp (fun _ _ h => h) fun p u hp h1 => by rw [hb.cell (Nat.lt_of_not_le hp)]; exact h1
theorem bc_str (s : ByteArray) : Lib.strCells s = Lib.byteCells (sb s) := rfl
theorem bc_len (l : Bs) : (Lib.byteCells l).length = l.length := Lib.byteCells_length l
end
theorem pr_str (b : Nat) (bs : Bs) (s : ByteArray) (w : World) (h : PrW b bs w) (hlen : bs.length + s.size ≤ 140737488355328) :
  Calls Tryz.prog 88 #[pat b, .string s] w fun e w' => e = .returned (.tuple #[.int .i64 s.size, .nilIface]) ∧ PrW b (bs ++ sb s) w' ∧ Below b w w' := by
 refine (WriteString_anyP b b _ s w h.1 (by rw [bc_len]; exact hlen) (Nat.le_of_lt h.lt)).mono ?_
 rintro e w' ⟨h1, h2, h3, _⟩
 refine ⟨h1, ⟨Or.inr ?_, h.2.below h3⟩, h3⟩
 rw [Lib.byteCells_append, ← bc_str]
 exact h2
theorem pr_byte (b : Nat) (bs : Bs) (c : UInt8) (w : World) (h : PrW b bs w) (hlen : bs.length + 1 ≤ 140737488355328) :
  Calls Tryz.prog 159 #[pat b, .int .u8 c.toNat] w fun e w' => e = .returned .nilIface ∧ PrW b (bs ++ [c]) w' ∧ Below b w w' := by
 refine (Prt_WriteByte_k b b _ c.toNat w h.1 (by rw [bc_len]; exact hlen) (Nat.le_of_lt h.lt)).mono ?_
 rintro e w' ⟨h1, h2, h3, _⟩
 refine ⟨h1, ⟨Or.inr ?_, h.2.below h3⟩, h3⟩
 rw [Lib.byteCells_append]
 exact h2
theorem pr_len (b : Nat) (bs : Bs) (w : World) (h : PrW b bs w) :
  Calls Tryz.prog 91 #[pat b] w fun e w' => e = .returned (.int .i64 bs.length) ∧ w' = w := by
 refine (Prt_Len_f b b _ w h.1).mono ?_
 rintro e w' ⟨h1, h2⟩
 rw [bc_len] at h1
 exact ⟨h1, h2⟩
theorem pr_text (b : Nat) (bs : Bs) (w : World) (h : PrW b bs w) :
  Calls Tryz.prog 92 #[pat b] w fun e w' => e = .returned (.string (bt bs)) ∧ PrW b bs w' ∧ Below b w w' := by
 refine (Prt_String_any_f b b bs w h.1 (Nat.le_of_lt h.lt)).mono ?_
 rintro e w' ⟨h1, h2, h3⟩
 exact ⟨h1, ⟨h2, h.2.below h3⟩, h3⟩
end

/- A printer stands where a call only lays blocks. -/
section
open Go.RowKit
set_option linter.unusedSimpArgs false
theorem BuilderAtF.up {T e : TypeId} {B b : Nat} {p : Value} {bs : List Value} {w w' : World} (h : Lib.BuilderAtF T e B b p bs w) (hb : Below w.heap.size w w') : Lib.BuilderAtF T e B b p bs w' := by
 have hlt := h.lt
 obtain ⟨hB, v, hk, hown, hne⟩ := h
 exact ⟨hB, v, (hb.block b hlt).trans hk, hown.kept (row := none) ⟨hb.os, hb.tape, hb.output, hb.size, fun k hk _ => hb.block k hk⟩ (by cases hv : v.ownBlock <;> simp), hne⟩
theorem PrW.up {b : Nat} {bs : Bs} {w w' : World} (h : PrW b bs w) (hb : Below w.heap.size w w') : PrW b bs w' := ⟨h.1.elim (fun x => .inl (BuilderAtF.up x hb)) (fun x => .inr (BuilderAtF.up x hb)), h.2.block fun k hk => hb.block k (Nat.lt_trans hk h.lt)⟩
end

/- strings.Join of names with commas. -/
section
open Go.RowKit
set_option linter.unusedSimpArgs false
theorem joinB_eq (ps : List ByteArray) : Lib.join (ps.map (·.data.toList)) [44, 32] = joinB ps := by
  cases ps with
  | nil => rfl
  | cons x r =>
    show [44, 32].intercalate _ = _
    unfold joinB
    simp only [List.map_cons, commas]
    induction r generalizing x with
    | nil => simp [List.intercalate, sb]
    | cons y r ih =>
      have := ih y
      simp only [List.map_cons, List.flatten_cons]
      rw [show [44, 32].intercalate (x.data.toList :: y.data.toList :: r.map (·.data.toList)) = x.data.toList ++ ([44, 32] ++ [44, 32].intercalate (y.data.toList :: r.map (·.data.toList))) by simp [List.intercalate, List.intersperse]]
      rw [this]
      simp [sb]
theorem join_ps {S : Nat → Prop} {A : Option Addr} {c : Nat} {ps : List ByteArray} {w : World} (h : RdS S w .string A c ps) (hlen : (joinB ps).length ≤ 1000000000) :
    Calls Tryz.prog 89 #[.slice A ps.length c, .string ⟨#[44, 32]⟩] w fun e w' => ∃ s : ByteArray, e = .returned (.string s) ∧ sb s = joinB ps ∧ Below w.heap.size w w' := by
  by_cases h0 : 0 < ps.length
  · obtain ⟨bk, o, rfl, hc⟩ := h.1.at0 h0
    have hb := h.lt h0 rfl
    have hle := h.1.le
    have hn : ps.length ≤ 140737488355328 := by
      have h1 : ∀ l : List ByteArray, l.length ≤ (joinB l).length + 1 := by
        intro l
        cases l with
        | nil => simp
        | cons x r =>
          unfold joinB
          simp only [List.map_cons, commas, List.length_append, List.length_cons]
          have : ∀ q : List Bs, q.length ≤ ((q.map fun y => [44, 32] ++ y).flatten).length := by
            intro q
            induction q with
            | nil => simp
            | cons z q ih => simp only [List.map_cons, List.flatten_cons, List.length_append, List.length_cons]; omega
          have := this (r.map sb)
          rw [List.length_map] at this
          omega
      have := h1 ps
      omega
    refine (Tryz.strings_Join bk o c ps ⟨#[44, 32]⟩ w hc hb hn hle (by rw [show (ByteArray.mk #[44, 32]).data.toList = [44, 32] from rfl, joinB_eq]; omega)).mono ?_
    rintro e w' ⟨rfl, hf⟩
    exact ⟨_, rfl, by show Lib.join _ [44, 32] = _; exact joinB_eq ps, hf⟩
  · obtain rfl : ps = [] := List.eq_nil_of_length_eq_zero (by omega)
    refine (Tryz.strings_Join_none A c ⟨#[44, 32]⟩ w).mono ?_
    rintro e w' ⟨rfl, rfl⟩
    exact ⟨_, rfl, rfl, Below.refl _ _⟩
end

end Go.Proofs.YtchldahkcpbgcaaGreatDoor
