/- Texts of this seat, one behind the other: Grow, GrowE, LGram. -/
import Derived.Test.YtippadnbngcjlaaDoorg321
import Derived.Test.YtippadnbngcjlaaDoorg336
import Derived.Test.YtippadnbngcjlaaDoorg33
import Derived.Test.YtippadnbngcjlaaDoorg316
/- grammar and grows: the small grammar and the small tree of the laws. -/
namespace Go.Proofs.YtippadnbngcjlaaDoor
open Go.RowKit
set_option linter.unusedVariables false

/-- The call returns the small grammar. -/
def RetGG (w : World) (e : Ending) (w' : World) : Prop := ∃ A, e = .returned (.agg #[.slice A 3 3]) ∧ Fr [] w w' ∧ RRu w' A 3 gG

theorem RSl.one {w : World} {g : Nat} {ty : TypeId} {s : Sl} {A : Option Addr} {c : Nat} (hb : Blk w g ty #[.int .u8 s.many, .slice A s.kinds.length c, .string s.between]) (hm : 0 ≤ s.many ∧ s.many ≤ 255) (hk : Rd w (.int .i64) A c s.kinds) : RSl w (some ⟨g, 0, none⟩) 1 [s] :=
  ⟨Nat.le_refl _, by unfold maxLen; omega, fun _ => ⟨g, 0, rfl, fun k x hx => by
    match k, hx with
    | 0, hx =>
      have hx : s = x := by simpa using hx
      subst hx
      exact ⟨hm, hb.cell 0 rfl, ⟨A, c, hb.cell 1 rfl, hk⟩, hb.cell 2 rfl⟩⟩⟩
theorem RSl.nil_ (w : World) : RSl w none 0 [] := ⟨Nat.le_refl _, by unfold maxLen; omega, fun h => by simp at h⟩
theorem results_gram {fn : Func} {p : Tmp} (h : fn.results = #[.cell p 24]) (tmps : Array Value) (w : World) (g : Nat) {a0 : Value} (hp : tmps.getD p undef = .pointer (some ⟨g, 0, none⟩)) (hb : Blk w g 24 #[a0]) :
    (results fn tmps).run Tryd.prog w = .ok (.agg #[a0]) w := by
  have c0 := hb.cell 0 rfl
  simp only [Array.getD_eq_getD_getElem?] at hp
  simp [results, h, go_sem, hp, c0]

set_option maxRecDepth 20000 in
set_option maxHeartbeats 3200000 in
theorem grammar_any (w : World) : Calls Tryd.prog 27 #[] w (RetGG w) := by
  go_enter Tryd.func27, Tryd.ntmps27
  go_wp2_with fail
  have h0 := (((((Blk.new w 24 #[.slice (some ⟨w.heap.size + 1 + 1 + 1 + 1 + 1, 0, none⟩) 3 3] _ rfl).alloc (.cells #[.int .i64 0, .int .i64 1, .int .i64 2] 3)).alloc (.cells #[.int .u8 2, .slice (some ⟨w.heap.size + 1, 0, none⟩) 3 3, .string ⟨#[43]⟩] 52)).alloc (.cells #[.int .i64 0, .int .i64 1] 3)).alloc (.cells #[.int .u8 0, .slice (some ⟨w.heap.size + 1 + 1 + 1, 0, none⟩) 2 2, .string ⟨#[]⟩] 52)).alloc (.cells #[.string ⟨#[40]⟩, .string ⟨#[41]⟩, .bool false, .slice (some ⟨w.heap.size + 1 + 1, 0, none⟩) 1 1, .string ⟨#[]⟩, .string ⟨#[]⟩, .bool true, .slice none 0 0, .string ⟨#[45]⟩, .string ⟨#[]⟩, .bool false, .slice (some ⟨w.heap.size + 1 + 1 + 1 + 1, 0, none⟩) 1 1] 49)
  have hF : Fr [] w ((((((w.alloc (.cells #[.slice (some ⟨w.heap.size + 1 + 1 + 1 + 1 + 1, 0, none⟩) 3 3] 24)).alloc (.cells #[.int .i64 0, .int .i64 1, .int .i64 2] 3)).alloc (.cells #[.int .u8 2, .slice (some ⟨w.heap.size + 1, 0, none⟩) 3 3, .string ⟨#[43]⟩] 52)).alloc (.cells #[.int .i64 0, .int .i64 1] 3)).alloc (.cells #[.int .u8 0, .slice (some ⟨w.heap.size + 1 + 1 + 1, 0, none⟩) 2 2, .string ⟨#[]⟩] 52)).alloc (.cells #[.string ⟨#[40]⟩, .string ⟨#[41]⟩, .bool false, .slice (some ⟨w.heap.size + 1 + 1, 0, none⟩) 1 1, .string ⟨#[]⟩, .string ⟨#[]⟩, .bool true, .slice none 0 0, .string ⟨#[45]⟩, .string ⟨#[]⟩, .bool false, .slice (some ⟨w.heap.size + 1 + 1 + 1 + 1, 0, none⟩) 1 1] 49)) := (by repeat (first | exact Fr.refl _ _ | assumption | apply Fr.drewN | apply Fr.drew | apply Fr.alloc | refine Fr.setCell ?_ (by simp) _))
  refine bodyPost_ret (results_gram rfl _ _ w.heap.size rfl h0) rfl ?_
  refine ⟨_, rfl, hF, Nat.le_refl _, by unfold maxLen; decide, fun _ => ⟨_, 0, rfl, fun k r hr => ?_⟩⟩
  have hB : ∀ (w : World) (o : Obj) (g : Nat) (ty : TypeId) (cs : Array Value), Blk w g ty cs → Blk (w.alloc o) g ty cs := fun w o g ty cs h => h.alloc _
  match k, hr with
  | 0, hr =>
    obtain rfl := Option.some.inj hr
    refine ⟨by simp [go_sem], by simp [go_sem], by simp [go_sem], some ⟨w.heap.size + 1 + 1, 0, none⟩, 1, by simp [go_sem], ?_⟩
    refine RSl.one (s := ⟨2, [0, 1, 2], ⟨#[43]⟩⟩) (A := some ⟨w.heap.size + 1, 0, none⟩) (c := 3) (ty := 52) ?_ (by decide) ?_
    · exact (((Blk.new _ _ _ _ (by simp)).alloc _).alloc _).alloc _
    · exact ((((Rd.lit _ _ (.int .i64) [0, 1, 2] _ (by simp) (by simp)).alloc _).alloc _).alloc _).alloc _
  | 1, hr =>
    obtain rfl := Option.some.inj hr
    exact ⟨by simp [go_sem], by simp [go_sem], by simp [go_sem], none, 0, by simp [go_sem], RSl.nil_ _⟩
  | 2, hr =>
    obtain rfl := Option.some.inj hr
    refine ⟨by simp [go_sem], by simp [go_sem], by simp [go_sem], some ⟨w.heap.size + 1 + 1 + 1 + 1, 0, none⟩, 1, by simp [go_sem], ?_⟩
    refine RSl.one (s := ⟨0, [0, 1], emptyS⟩) (A := some ⟨w.heap.size + 1 + 1 + 1, 0, none⟩) (c := 2) (ty := 52) ?_ (by decide) ?_
    · exact (Blk.new _ _ _ _ (by simp)).alloc _
    · exact ((Rd.lit _ _ (.int .i64) [0, 1] _ (by simp) (by simp)).alloc _).alloc _
  | k + 3, hr => cases hr
end Go.Proofs.YtippadnbngcjlaaDoor

/- grows: the small tree of the laws is as the chapter says. -/
namespace Go.Proofs.YtippadnbngcjlaaDoor
open Go.RowKit
set_option linter.unusedVariables false

section
variable {A B : Option Addr} {c n : Nat} {S : Nat → Prop} {W : World}
theorem RowAt.blk1 {g : Nat} {ty : TypeId} {x : T} (hb : Blk W g ty #[.int .i64 x.kind, .string x.text, .slice A x.slots.length c]) (hS : ¬ S g) (h : RH S n W A c x) : RowAt S n W (some ⟨g, 0, none⟩) 1 [x] :=
  ⟨Nat.le_refl _, by unfold maxLen; omega, fun _ => ⟨g, 0, rfl, hS, fun k y hy => by
    match k, hy with
    | 0, hy =>
      have hy : x = y := by simpa using hy
      subst hy
      exact ⟨hb.cell 0 rfl, hb.cell 1 rfl, A, c, hb.cell 2 rfl, h⟩⟩⟩
theorem RowAt.blk2 {g c' : Nat} {A' : Option Addr} {ty : TypeId} {x y : T} (hb : Blk W g ty #[.int .i64 x.kind, .string x.text, .slice A x.slots.length c, .int .i64 y.kind, .string y.text, .slice A' y.slots.length c']) (hS : ¬ S g) (h : RH S n W A c x) (h' : RH S n W A' c' y) : RowAt S n W (some ⟨g, 0, none⟩) 2 [x, y] :=
  ⟨Nat.le_refl _, by unfold maxLen; omega, fun _ => ⟨g, 0, rfl, hS, fun k z hz => by
    match k, hz with
    | 0, hz =>
      have hz : x = z := by simpa using hz
      subst hz
      exact ⟨hb.cell 0 rfl, hb.cell 1 rfl, A, c, hb.cell 2 rfl, h⟩
    | 1, hz =>
      have hz : y = z := by simpa using hz
      subst hz
      exact ⟨hb.cell 3 rfl, hb.cell 4 rfl, A', c', hb.cell 5 rfl, h'⟩⟩⟩
theorem RH.blk1 {g : Nat} {ty : TypeId} {k : Int} {x : ByteArray} {r : List T} (hb : Blk W g ty #[.slice A r.length c]) (hS : ¬ S g) (h : RowAt S n W A c r) : RH S (n + 1) W (some ⟨g, 0, none⟩) 1 (T.mk k x [r]) :=
  show RowsB S _ W (some ⟨g, 0, none⟩) 1 [r] from ⟨Nat.le_refl _, by unfold maxLen; omega, fun _ => ⟨g, 0, rfl, hS, fun k z hz => by
    match k, hz with
    | 0, hz =>
      have hz : r = z := by simpa using hz
      subst hz
      exact ⟨A, c, hb.cell 0 rfl, h⟩⟩⟩
theorem RH.leaf {k : Int} {x : ByteArray} : RH S (n + 1) W none 0 (T.mk k x []) :=
  show RowsB S _ W none 0 [] from ⟨Nat.le_refl _, by unfold maxLen; omega, fun h => by simp at h⟩
theorem g_print (ha : RRu W A 3 gG) (ht : RH S n W B c tG) : Calls Tryd.prog 8 #[.agg #[.slice A 3 3], .agg #[.int .i64 0, .string ⟨#[]⟩, .slice B 1 c]] W (RetV W (.tuple #[.string ⟨#[40, 55, 43, 45, 56, 41]⟩, .int .i64 0])) := by
  have h := Print_any A 3 gG LG n tG _ S W ha (fun _ => lok_G) ⟨B, c, rfl, ht⟩ (by rw [ex_nodes]; decide)
  rw [ex_p1] at h
  exact h
theorem g_print2 (ha : RRu W A 3 gG) (ht : RH S n W B c uG) : Calls Tryd.prog 8 #[.agg #[.slice A 3 3], .agg #[.int .i64 0, .string ⟨#[]⟩, .slice B 1 c]] W (RetV W (.tuple #[.string ⟨#[40, 55, 41]⟩, .int .i64 0])) := by
  have h := Print_any A 3 gG LG n uG _ S W ha (fun _ => lok_G) ⟨B, c, rfl, ht⟩ (by rw [ex_nodes3]; decide)
  rw [ex_p2] at h
  exact h
theorem g_nodes (ht : RH S n W B c tG) : Calls Tryd.prog 17 #[.agg #[.int .i64 0, .string ⟨#[]⟩, .slice B 1 c]] W (RetV W (.int .i64 4)) := by
  have h := Nodes_any n tG _ S W ⟨B, c, rfl, ht⟩ (by rw [ex_nodes]; decide)
  rw [ex_nodes] at h
  exact h
theorem g_nodes2 (ht : RH S n W B c xG) : Calls Tryd.prog 17 #[.agg #[.int .i64 2, .string ⟨#[]⟩, .slice B 1 c]] W (RetV W (.int .i64 2)) := by
  have h := Nodes_any n xG _ S W ⟨B, c, rfl, ht⟩ (by rw [ex_nodes2]; decide)
  rw [ex_nodes2] at h
  exact h
theorem g_can (ha : RRu W A 3 gG) (ht : RH S n W B c tG) : Calls Tryd.prog 19 #[.agg #[.slice A 3 3], .agg #[.int .i64 0, .string ⟨#[]⟩, .slice B 1 c]] W fun e w' => ∃ A c, e = .returned (.tuple #[.slice A 2 c, .int .i64 0]) ∧ Fr [] W w' ∧ Rd w' (.int .i64) A c [1, 2] := by
  have h := Prunable_any A 3 gG LG n tG _ S W ha (fun _ => lok_G) ⟨B, c, rfl, ht⟩ (by rw [ex_nodes]; decide)
  rw [ex_can] at h
  refine Calls.mono h ?_
  rintro e w' ⟨A, c, rfl, hf, ho⟩
  exact ⟨A, c, rfl, hf, (Rd.of_own ho).2⟩
theorem g_prune {D : Option Addr} {d : Nat} (ha : RRu W A 3 gG) (ht : RH S n W B c tG) (hd : Rd W (.int .i64) D d [2]) : Calls Tryd.prog 22 #[.agg #[.slice A 3 3], .agg #[.int .i64 0, .string ⟨#[]⟩, .slice B 1 c], .slice D 1 d] W fun e w' => ∃ A c, e = .returned (.tuple #[.agg #[.int .i64 0, .string ⟨#[]⟩, .slice A 1 c], .int .i64 0]) ∧ Fr [] W w' ∧ RH (fun k => k < W.heap.size) (n + 1024) w' A c uG := by
  have h := Prune_any A D 3 d gG LG n tG _ S [2] W ha (fun _ => lok_G) ⟨B, c, rfl, ht⟩ (by rw [ex_nodes]; decide) hd
  rw [ex_prune] at h
  exact h
theorem g_least (ha : RRu W A 3 gG) : Calls Tryd.prog 10 #[.agg #[.slice A 3 3], .int .i64 2] W fun e w' => ∃ A c, e = .returned (.tuple #[.agg #[.int .i64 2, .string ⟨#[]⟩, .slice A 1 c], .int .i64 0]) ∧ Fr [] W w' ∧ RH (fun k => k < W.heap.size) 1025 w' A c xG := by
  have h := Least_any A 3 gG LG 2 W ha (fun _ => lok_G)
  rw [ex_least] at h
  exact h
end

set_option maxRecDepth 100000 in
set_option maxHeartbeats 3200000 in
theorem grows_any (w : World) (htab : Tab w) : Calls Tryd.prog 7 #[] w (RetV w (.bool true)) := by
  go_enter Tryd.func7, Tryd.ntmps7
  go_wp2_with fail
  refine (grammar_any _).mono ?_
  rintro e w1 ⟨A, rfl, hf1, hg1⟩
  go_wp2_with fail
  obtain ⟨W, hW⟩ : ∃ W, W = (((((w1.alloc (.cells #[.slice A 3 3] 24)).alloc (.cells #[.int .i64 1, .string ⟨#[56]⟩, .slice none 0 0] 27)).alloc (.cells #[.slice (some ⟨w1.heap.size + 1, 0, none⟩) 1 1] 55)).alloc (.cells #[.int .i64 1, .string ⟨#[55]⟩, .slice none 0 0, .int .i64 2, .string ⟨#[]⟩, .slice (some ⟨w1.heap.size + 1 + 1, 0, none⟩) 1 1] 27)).alloc (.cells #[.slice (some ⟨w1.heap.size + 1 + 1 + 1, 0, none⟩) 2 2] 55)).alloc (.cells #[.int .i64 0, .string ⟨#[]⟩, .slice (some ⟨w1.heap.size + 1 + 1 + 1 + 1, 0, none⟩) 1 1] 27) := ⟨_, rfl⟩
  have hFW : Fr [] w1 W := by rw [hW]; exact (by repeat (first | exact Fr.refl _ _ | assumption | apply Fr.drewN | apply Fr.drew | apply Fr.alloc | refine Fr.setCell ?_ (by simp) _))
  have b0 : Blk W w1.heap.size 24 #[.slice A 3 3] := by rw [hW]; exact (((((Blk.new w1 _ _ _ rfl).alloc _).alloc _).alloc _).alloc _).alloc _
  have b1 : Blk W (w1.heap.size + 1) 27 #[.int .i64 1, .string ⟨#[56]⟩, .slice none 0 0] := by rw [hW]; exact ((((Blk.new _ _ _ _ (by simp)).alloc _).alloc _).alloc _).alloc _
  have b2 : Blk W (w1.heap.size + 1 + 1) 55 #[.slice (some ⟨w1.heap.size + 1, 0, none⟩) 1 1] := by rw [hW]; exact (((Blk.new _ _ _ _ (by simp)).alloc _).alloc _).alloc _
  have b3 : Blk W (w1.heap.size + 1 + 1 + 1) 27 #[.int .i64 1, .string ⟨#[55]⟩, .slice none 0 0, .int .i64 2, .string ⟨#[]⟩, .slice (some ⟨w1.heap.size + 1 + 1, 0, none⟩) 1 1] := by rw [hW]; exact ((Blk.new _ _ _ _ (by simp)).alloc _).alloc _
  have b4 : Blk W (w1.heap.size + 1 + 1 + 1 + 1) 55 #[.slice (some ⟨w1.heap.size + 1 + 1 + 1, 0, none⟩) 2 2] := by rw [hW]; exact (Blk.new _ _ _ _ (by simp)).alloc _
  have b5 : Blk W (w1.heap.size + 1 + 1 + 1 + 1 + 1) 27 #[.int .i64 0, .string ⟨#[]⟩, .slice (some ⟨w1.heap.size + 1 + 1 + 1 + 1, 0, none⟩) 1 1] := by rw [hW]; exact Blk.new _ _ _ _ (by simp)
  have r8 : RowAt (fun _ => False) 1 W (some ⟨w1.heap.size + 1, 0, none⟩) 1 [tG8] := RowAt.blk1 (x := tG8) b1 id RH.leaf
  have h2 : RH (fun _ => False) 2 W (some ⟨w1.heap.size + 1 + 1, 0, none⟩) 1 tG2 := RH.blk1 (r := [tG8]) b2 id r8
  have r7 : RowAt (fun _ => False) 2 W (some ⟨w1.heap.size + 1 + 1 + 1, 0, none⟩) 2 [tG7, tG2] := RowAt.blk2 (x := tG7) (y := tG2) b3 id RH.leaf h2
  have hT : RH (fun _ => False) 3 W (some ⟨w1.heap.size + 1 + 1 + 1 + 1, 0, none⟩) 1 tG := RH.blk1 (r := [tG7, tG2]) b4 id r7
  have hF1 : Fr [] w W := hf1.trans hFW
  have hgW := hg1.fr0 hFW
  have HW := Lib.hid hW.symm
  clear hW b1 b2 b3 b4 r8 h2 r7 hFW hg1 hf1
  rw [HW.out]
  clear HW
  generalize w1.heap.size + 1 + 1 + 1 + 1 + 1 = bt at *
  generalize w1.heap.size + 1 + 1 + 1 + 1 = bs at *
  generalize w1.heap.size = bg at *
  refine (g_print hgW hT).mono ?_
  rintro e w2 ⟨rfl, hf2⟩
  have hF2 := hF1.trans hf2
  have hg2 := hgW.fr0 hf2
  have hT2 := hT.fr0 hf2
  have b0 := b0.fr hf2 (by simp)
  have b5 := b5.fr hf2 (by simp)
  have q0 := b0.cell 0 rfl
  have y0 := b5.cell 0 rfl
  have y1 := b5.cell 1 rfl
  have y2 := b5.cell 2 rfl
  clear hT hgW hF1 hf2
  go_wp2_with fail
  refine (g_can hg2 hT2).mono ?_
  rintro e w3 ⟨A3, c3, rfl, hf3, hr3⟩
  have hF3 := hF2.trans hf3
  have hg3 := hg2.fr0 hf3
  have hT3 := hT2.fr0 hf3
  have b0 := b0.fr hf3 (by simp)
  have b5 := b5.fr hf3 (by simp)
  have q0 := (b0.alloc (.cells #[.int .i64 2] 3)).cell 0 rfl
  have y0 := (b5.alloc (.cells #[.int .i64 2] 3)).cell 0 rfl
  have y1 := (b5.alloc (.cells #[.int .i64 2] 3)).cell 1 rfl
  have y2 := (b5.alloc (.cells #[.int .i64 2] 3)).cell 2 rfl
  have q00 := b0.cell 0 rfl
  have y00 := b5.cell 0 rfl
  have y01 := b5.cell 1 rfl
  have y02 := b5.cell 2 rfl
  clear hT2 hg2 hF2 hf3
  go_wp2_with fail
  have hd : Rd (w3.alloc (.cells #[.int .i64 2] 3)) (.int .i64) (some ⟨w3.heap.size, 0, none⟩) 1 [2] := Rd.lit w3 3 (.int .i64) [2] _ rfl (by simp)
  refine (g_prune (hg3.fr0 ((Fr.refl _ _).alloc _)) (hT3.fr0 ((Fr.refl _ _).alloc _)) hd).mono ?_
  rintro e w4 ⟨A4, c4, rfl, hf4, hT4⟩
  have hT4 := hT4.sub (S' := fun _ => False) fun _ _ h => h.elim
  have hf4 : Fr [] w3 w4 := Fr.trans ((Fr.refl _ _).alloc _) hf4
  have hF4 := hF3.trans hf4
  clear hd q0 y0 y1 y2 q00 y00 y01 y02
  obtain ⟨W4, hW4⟩ : ∃ W, W = w4.alloc (.cells #[.int .i64 0, .string ⟨#[]⟩, .slice A4 1 c4] 27) := ⟨_, rfl⟩
  have hf5 : Fr [] w4 W4 := by rw [hW4]; exact (by repeat (first | exact Fr.refl _ _ | assumption | apply Fr.drewN | apply Fr.drew | apply Fr.alloc | refine Fr.setCell ?_ (by simp) _))
  have b7 : Blk W4 w4.heap.size 27 #[.int .i64 0, .string ⟨#[]⟩, .slice A4 1 c4] := by rw [hW4]; exact Blk.new _ _ _ _ rfl
  have hF5 := hF4.trans hf5
  have hg5 := (hg3.fr0 hf4).fr0 hf5
  have hT5 := (hT3.fr0 hf4).fr0 hf5
  have hU5 := hT4.fr0 hf5
  have hr5 := (hr3.fr0 hf4).fr0 hf5
  have b0 := (b0.fr hf4 (by simp)).fr hf5 (by simp)
  have b5 := (b5.fr hf4 (by simp)).fr hf5 (by simp)
  have q0 := b0.cell 0 rfl
  have z0 := b7.cell 0 rfl
  have z1 := b7.cell 1 rfl
  have z2 := b7.cell 2 rfl
  rw [hW4] at q0 z0 z1 z2
  have HW4 := Lib.hid hW4.symm
  clear hW4 hg3 hT3 hT4 hr3 hF3 hF4 hf4
  go_wp2_with fail
  rw [HW4.out]
  clear q0 z0 z1 z2
  refine (g_print2 hg5 hU5).mono ?_
  rintro e w6 ⟨rfl, hf6⟩
  have hF6 := hF5.trans hf6
  have hg6 := hg5.fr0 hf6
  have hT6 := hT5.fr0 hf6
  have hr6 := hr5.fr0 hf6
  have b0 := b0.fr hf6 (by simp)
  have b5 := b5.fr hf6 (by simp)
  have q0 := b0.cell 0 rfl
  clear hg5 hT5 hU5 hr5 hF5 hf6 b7 HW4 hf5
  generalize w4.heap.size = bu at *
  go_wp2_with fail
  refine (g_least hg6).mono ?_
  rintro e w7 ⟨A7, c7, rfl, hf7, hX7⟩
  have hX7 := hX7.sub (S' := fun _ => False) fun _ _ h => h.elim
  have hF7 := hF6.trans hf7
  have hT7 := hT6.fr0 hf7
  have hr7 := hr6.fr0 hf7
  have b5 := b5.fr hf7 (by simp)
  clear q0 b0 hg6 hT6 hr6 hF6 hf7
  obtain ⟨W8, hW8⟩ : ∃ W, W = (w7.alloc (.cells #[.int .i64 2, .string ⟨#[]⟩, .slice A7 1 c7] 27)).alloc (.cells #[.int .i64 1, .int .i64 2] 3) := ⟨_, rfl⟩
  have hf8 : Fr [] w7 W8 := by rw [hW8]; exact (by repeat (first | exact Fr.refl _ _ | assumption | apply Fr.drewN | apply Fr.drew | apply Fr.alloc | refine Fr.setCell ?_ (by simp) _))
  have b9 : Blk W8 w7.heap.size 27 #[.int .i64 2, .string ⟨#[]⟩, .slice A7 1 c7] := by rw [hW8]; exact (Blk.new _ _ _ _ rfl).alloc _
  have hd8 : Rd W8 (.int .i64) (some ⟨w7.heap.size + 1, 0, none⟩) 2 [1, 2] := by rw [hW8]; exact Rd.lit _ 3 (.int .i64) [1, 2] _ (by simp) (by simp)
  have hF8 := hF7.trans hf8
  have hT8 := hT7.fr0 hf8
  have hX8 := hX7.fr0 hf8
  have hr8 := hr7.fr0 hf8
  have b5 := b5.fr hf8 (by simp)
  have HW8 := Lib.hid hW8.symm
  clear hW8 hT7 hr7 hX7 hF7
  go_wp2_with fail
  rw [HW8.out]
  clear HW8
  refine (lawints_any A3 (some ⟨w7.heap.size + 1, 0, none⟩) c3 2 [1, 2] [1, 2] W8 hr8 hd8).mono ?_
  rintro e w9 ⟨rfl, n9, rfl⟩
  have y0 := b5.cell 0 rfl
  have y1 := b5.cell 1 rfl
  have y2 := b5.cell 2 rfl
  go_wp2_with fail
  refine (g_nodes (hT8.fr0 (Fr.refl _ _ |>.drewN _))).mono ?_
  rintro e w10 ⟨rfl, hf10⟩
  have hf10 : Fr [] W8 w10 := Fr.trans ((Fr.refl _ _).drewN _) hf10
  have b9 := b9.fr hf10 (by simp)
  have z0 := b9.cell 0 rfl
  have z1 := b9.cell 1 rfl
  have z2 := b9.cell 2 rfl
  clear y0 y1 y2 b5 hd8 hr8
  go_wp2_with fail
  refine (g_nodes2 (hX8.fr0 hf10)).mono ?_
  rintro e w11 ⟨rfl, hf11⟩
  have hF11 := (hF8.trans hf10).trans hf11
  clear z0 z1 z2 b9
  go_wp2_with fail
  refine (awake_any _ (htab.fr hF11)).mono ?_
  rintro e w12 ⟨rfl, hf12⟩
  go_wp2_with fail
  go_ret
  exact ⟨rfl, hF11.trans hf12⟩
end Go.Proofs.YtippadnbngcjlaaDoor

/- ReduceGrammars: the walk of the law. -/
namespace Go.Proofs.YtippadnbngcjlaaDoor
open Go.RowKit
set_option linter.unusedVariables false

/-- The least sizes, if the grammar's rules are right. -/
theorem lok_exists (g : List Ru) : ∃ L, rulesErr g = 0 → LOk g L := by
  by_cases h : rulesErr g = 0
  · have hr := rules_ok h
    obtain ⟨L, h1, h2⟩ := sz_exists (M := MUCH) (g := g) (by decide) fun r hr' => hr.kinds r hr'
    exact ⟨L, fun _ => ⟨fun r hr' => hr.kinds r hr', h1, h2, fun r hr' => Nat.le_trans (hr.head r hr').2.2 (by decide)⟩⟩
  · exact ⟨[], fun h' => absurd h' h⟩

set_option maxRecDepth 100000 in
set_option maxHeartbeats 6400000 in
theorem LGram_any (A AT : Option Addr) (c cT : Nat) (g : List Ru) (n : Nat) (t : T) (S : Nat → Prop) (kind : Int) (w : World) (ha : RRu w A c g) (hR : RH S n w AT cT t) (htab : Tab w) :
    Calls Tryd.prog 3 #[.agg #[.slice A g.length c], .agg (tcells t AT cT), .int .i64 kind] w (RetV w (.bool true)) := by
  obtain ⟨L, hL⟩ := lok_exists g
  obtain ⟨W, hW⟩ : ∃ W, W = (w.alloc (.cells #[.slice A g.length c] 24)).alloc (.cells (tcells t AT cT) 27) := ⟨_, rfl⟩
  have hF : Fr [] w W := by rw [hW]; exact (by repeat (first | exact Fr.refl _ _ | assumption | apply Fr.drewN | apply Fr.drew | apply Fr.alloc | refine Fr.setCell ?_ (by simp) _))
  have hB1 : Blk W w.heap.size 24 #[.slice A g.length c] := by rw [hW]; exact (Blk.new w _ _ _ rfl).alloc _
  have hB2 : Blk W (w.heap.size + 1) 27 (tcells t AT cT) := by rw [hW]; exact Blk.new _ _ _ _ (by simp)
  have q0 := hB1.cell 0 rfl
  have p0 := hB2.cell 0 rfl
  have p1 := hB2.cell 1 rfl
  have p2 := hB2.cell 2 rfl
  rw [hW] at q0 p0 p1 p2
  have HW := Lib.hid hW.symm
  clear hW
  go_enter Tryd.func3, Tryd.ntmps3
  go_wp2_with fail
  rw [HW.out]
  clear q0 p0 p1 p2
  refine (huge_any A c g n t _ S _ (ha.fr0 hF) ⟨AT, cT, rfl, hR.fr0 hF⟩).mono ?_
  rintro e w1 ⟨b, rfl, hf1, hb⟩
  have hF := hF.trans hf1
  have hB1 := hB1.fr hf1 (by simp)
  have hB2 := hB2.fr hf1 (by simp)
  clear hf1
  rcases b with _ | _
  · have hn := hb rfl
    clear hb
    have q0 := hB1.cell 0 rfl
    have p0 := hB2.cell 0 rfl
    have p1 := hB2.cell 1 rfl
    have p2 := hB2.cell 2 rfl
    go_wp2_with fail
    obtain ⟨pr, hp⟩ : ∃ pr, printOf g L t = pr := ⟨_, rfl⟩
    have HP := Lib.hid hp
    obtain ⟨lr, hl⟩ : ∃ lr, leastOf g L kind = lr := ⟨_, rfl⟩
    have HLR := Lib.hid hl
    clear hp hl
    refine (Print_any A c g L n t _ S _ (ha.fr0 hF) hL ⟨AT, cT, rfl, hR.fr0 hF⟩ (by omega)).mono ?_
    rw [HP.out]
    rintro e w2 ⟨rfl, hf2⟩
    have hF := hF.trans hf2
    have hB1 := hB1.fr hf2 (by simp)
    have hB2 := hB2.fr hf2 (by simp)
    clear hf2 q0 p0 p1 p2
    have q0 := hB1.cell 0 rfl
    have p0 := hB2.cell 0 rfl
    have p1 := hB2.cell 1 rfl
    have p2 := hB2.cell 2 rfl
    go_wp2_with fail
    refine (refPrint_any A c g L n t _ S _ (ha.fr0 hF) hL ⟨AT, cT, rfl, hR.fr0 hF⟩ (by omega)).mono ?_
    rw [HP.out]
    rintro e w3 ⟨rfl, hf3⟩
    have hF := hF.trans hf3
    have hB1 := hB1.fr hf3 (by simp)
    have hB2 := hB2.fr hf3 (by simp)
    clear hf3 q0 p0 p1 p2
    have q0 := hB1.cell 0 rfl
    go_wp2_with fail
    refine (Least_any A c g L kind _ (ha.fr0 hF) hL).mono ?_
    rw [HLR.out]
    rintro e w4 ⟨A4, c4, rfl, hf4, hX⟩
    have hX := hX.sub (S' := fun _ => False) fun _ _ h => h.elim
    obtain ⟨W4, hW4⟩ : ∃ W, W = w4.alloc (.cells (tcells lr.1 A4 c4) 27) := ⟨_, rfl⟩
    have hf5 : Fr [] w3 W4 := by rw [hW4]; exact hf4.alloc _
    have hB3 : Blk W4 w4.heap.size 27 (tcells lr.1 A4 c4) := by rw [hW4]; exact Blk.new _ _ _ _ rfl
    have hX : RH (fun _ => False) 1025 W4 A4 c4 lr.1 := by rw [hW4]; exact hX.fr0 ((Fr.refl _ _).alloc _)
    have hF := hF.trans hf5
    have hB1 := hB1.fr hf5 (by simp)
    have hB2 := hB2.fr hf5 (by simp)
    have q0 := hB1.cell 0 rfl
    rw [hW4] at q0
    have HW4 := Lib.hid hW4.symm
    clear hW4 hf5 hf4
    go_wp2_with fail
    simp only [tcells] at HW4
    rw [HW4.out]
    clear q0
    refine (refLeast_any A c g L kind _ (ha.fr0 hF) hL).mono ?_
    rw [HLR.out]
    rintro e w5 ⟨A5, c5, rfl, hf5, hY⟩
    have hY := hY.sub (S' := fun _ => False) fun _ _ h => h.elim
    obtain ⟨W6, hW6⟩ : ∃ W, W = w5.alloc (.cells (tcells lr.1 A5 c5) 27) := ⟨_, rfl⟩
    have hf6 : Fr [] W4 W6 := by rw [hW6]; exact hf5.alloc _
    have hB4 : Blk W6 w5.heap.size 27 (tcells lr.1 A5 c5) := by rw [hW6]; exact Blk.new _ _ _ _ rfl
    have hY : RH (fun _ => False) 1025 W6 A5 c5 lr.1 := by rw [hW6]; exact hY.fr0 ((Fr.refl _ _).alloc _)
    have hX := hX.fr0 hf6
    have hF := hF.trans hf6
    have hB1 := hB1.fr hf6 (by simp)
    have hB2 := hB2.fr hf6 (by simp)
    have hB3 := hB3.fr hf6 (by simp)
    have y0 := hB3.cell 0 rfl
    have y1 := hB3.cell 1 rfl
    have y2 := hB3.cell 2 rfl
    have z0 := hB4.cell 0 rfl
    have z1 := hB4.cell 1 rfl
    have z2 := hB4.cell 2 rfl
    rw [hW6] at y0 y1 y2 z0 z1 z2
    have HW6 := Lib.hid hW6.symm
    clear hW6 hf6 hf5
    go_wp2_with fail
    simp only [tcells] at HW6
    rw [HW6.out]
    clear y0 y1 y2 z0 z1 z2
    refine (SameTree_any 1025 lr.1 _ _ _ _ W6 ⟨A4, c4, rfl, hX⟩ ⟨A5, c5, rfl, hY⟩).mono ?_
    rintro e w7 ⟨rfl, hf7⟩
    have hF := hF.trans hf7
    have hB1 := hB1.fr hf7 (by simp)
    have hB2 := hB2.fr hf7 (by simp)
    have q0 := hB1.cell 0 rfl
    have p0 := hB2.cell 0 rfl
    have p1 := hB2.cell 1 rfl
    have p2 := hB2.cell 2 rfl
    clear hf7 hX hY hB3 hB4 HW6 HW4 HW HLR HP
    obtain ⟨cg, hcg⟩ : ∃ x, chkG g L = x := ⟨_, rfl⟩
    obtain ⟨ct, hct⟩ : ∃ x, chkT g L t = x := ⟨_, rfl⟩
    have HCG := Lib.hid hcg
    have HCT := Lib.hid hct
    clear hcg hct
    go_wp2_with fail
    go_region_held3 (fun w' => w'.cell? ⟨w.heap.size, 0, none⟩ = some (.slice A g.length c) ∧ w'.cell? ⟨w.heap.size + 1, 0, none⟩ = some (.int .i64 t.kind) ∧ w'.cell? ⟨w.heap.size + 1, 1, none⟩ = some (.string t.text) ∧ w'.cell? ⟨w.heap.size + 1, 2, none⟩ = some (.slice AT t.slots.length cT))
      (first
        | (go_keep; done)
        | exact ⟨hFa.cell q0 (by simp), hFa.cell p0 (by simp), hFa.cell p1 (by simp), hFa.cell p2 (by simp)⟩)
      (first
        | (go_at_call 13; refine (CheckGrammar_any A c g L _ (ha.fr0 (Fr.trans hF (by repeat (first | exact Fr.refl _ _ | assumption | apply Fr.drewN | apply Fr.drew | apply Fr.alloc | refine Fr.setCell ?_ (by simp) _)))) hL).mono ?_; rw [HCG.out]; rintro e wa ⟨rfl, hfa⟩; have hFa : Fr [] w7 wa := (Fr.trans (by repeat (first | exact Fr.refl _ _ | assumption | apply Fr.drewN | apply Fr.drew | apply Fr.alloc | refine Fr.setCell ?_ (by simp) _)) hfa))
        | (go_at_call 14; refine (refCheckGrammar_any A c g L _ (ha.fr0 (Fr.trans hF (by repeat (first | exact Fr.refl _ _ | assumption | apply Fr.drewN | apply Fr.drew | apply Fr.alloc | refine Fr.setCell ?_ (by simp) _)))) hL).mono ?_; rw [HCG.out]; rintro e wa ⟨rfl, hfa⟩; have hFa : Fr [] w7 wa := (Fr.trans (by repeat (first | exact Fr.refl _ _ | assumption | apply Fr.drewN | apply Fr.drew | apply Fr.alloc | refine Fr.setCell ?_ (by simp) _)) hfa))
        | (go_at_call 15; refine (CheckTree_any A c g L n t _ S _ (ha.fr0 (Fr.trans hF (by repeat (first | exact Fr.refl _ _ | assumption | apply Fr.drewN | apply Fr.drew | apply Fr.alloc | refine Fr.setCell ?_ (by simp) _)))) hL ⟨AT, cT, rfl, hR.fr0 (Fr.trans hF (by repeat (first | exact Fr.refl _ _ | assumption | apply Fr.drewN | apply Fr.drew | apply Fr.alloc | refine Fr.setCell ?_ (by simp) _)))⟩ (by omega)).mono ?_; rw [HCT.out]; rintro e wa ⟨rfl, hfa⟩; have hFa : Fr [] w7 wa := (Fr.trans (by repeat (first | exact Fr.refl _ _ | assumption | apply Fr.drewN | apply Fr.drew | apply Fr.alloc | refine Fr.setCell ?_ (by simp) _)) hfa))
        | (go_at_call 16; refine (refCheckTree_any A c g L n t _ S _ (ha.fr0 (Fr.trans hF (by repeat (first | exact Fr.refl _ _ | assumption | apply Fr.drewN | apply Fr.drew | apply Fr.alloc | refine Fr.setCell ?_ (by simp) _)))) hL ⟨AT, cT, rfl, hR.fr0 (Fr.trans hF (by repeat (first | exact Fr.refl _ _ | assumption | apply Fr.drewN | apply Fr.drew | apply Fr.alloc | refine Fr.setCell ?_ (by simp) _)))⟩ (by omega)).mono ?_; rw [HCT.out]; rintro e wa ⟨rfl, hfa⟩; have hFa : Fr [] w7 wa := (Fr.trans (by repeat (first | exact Fr.refl _ _ | assumption | apply Fr.drewN | apply Fr.drew | apply Fr.alloc | refine Fr.setCell ?_ (by simp) _)) hfa))
        | (go_at_call 17; refine (Nodes_any n t _ S _ ⟨AT, cT, rfl, hR.fr0 (Fr.trans hF (by repeat (first | exact Fr.refl _ _ | assumption | apply Fr.drewN | apply Fr.drew | apply Fr.alloc | refine Fr.setCell ?_ (by simp) _)))⟩ (by omega)).mono ?_; rintro e wa ⟨rfl, hfa⟩; have hFa : Fr [] w7 wa := (Fr.trans (by repeat (first | exact Fr.refl _ _ | assumption | apply Fr.drewN | apply Fr.drew | apply Fr.alloc | refine Fr.setCell ?_ (by simp) _)) hfa))
        | (go_at_call 18; refine (refNodes_any n t _ S _ ⟨AT, cT, rfl, hR.fr0 (Fr.trans hF (by repeat (first | exact Fr.refl _ _ | assumption | apply Fr.drewN | apply Fr.drew | apply Fr.alloc | refine Fr.setCell ?_ (by simp) _)))⟩ (by omega)).mono ?_; rintro e wa ⟨rfl, hfa⟩; have hFa : Fr [] w7 wa := (Fr.trans (by repeat (first | exact Fr.refl _ _ | assumption | apply Fr.drewN | apply Fr.drew | apply Fr.alloc | refine Fr.setCell ?_ (by simp) _)) hfa))
        | (go_at_call 7; refine (grows_any _ (htab.fr (Fr.trans hF (by repeat (first | exact Fr.refl _ _ | assumption | apply Fr.drewN | apply Fr.drew | apply Fr.alloc | refine Fr.setCell ?_ (by simp) _))))).mono ?_; rintro e wa ⟨rfl, hfa⟩; have hFa : Fr [] w7 wa := (Fr.trans (by repeat (first | exact Fr.refl _ _ | assumption | apply Fr.drewN | apply Fr.drew | apply Fr.alloc | refine Fr.setCell ?_ (by simp) _)) hfa)))
    go_wp2_with fail
    go_ret
    exact ⟨rfl, hF.trans hFa⟩
  · go_wp2_with fail
    refine (grows_any _ (htab.fr hF)).mono ?_
    rintro e w2 ⟨rfl, hf2⟩
    go_wp2_with fail
    go_ret
    exact ⟨rfl, hF.trans hf2⟩
end Go.Proofs.YtippadnbngcjlaaDoor
