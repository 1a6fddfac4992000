/- Texts of this seat, one behind the other: Least, RLeast. -/
import Derived.Test.YtippadnbngcjlaaGreatDoorh116
import Derived.Test.YtippadnbngcjlaaGreatDoorh11
import Derived.Deep.LoopGhost
import Derived.Deep.RegionHeld3
namespace Go.Proofs.YtippadnbngcjlaaGreatDoor
set_option linter.unusedVariables false

/- least of the program. -/
section
open Go.RowKit
def RetT (n : Nat) (w : World) (t : T) (e : Ending) (w' : World) : Prop := ∃ A c, e = .returned (.agg (tcells t A c)) ∧ Fr [] w w' ∧ RH (fun k => k < w.heap.size) n w' A c t
theorem elemRows : Elem Tryz.prog 25 59 (.slice none 0 0) 1 24 := ⟨Tryz.underlying25, by kernel_rfl, rfl, by omega, by omega⟩
theorem one_row (p : RowH) : (encRow p).oneCell' = true := rfl
theorem Blk.three {w : World} {g : Nat} {t : TypeId} {x0 x1 x2 : Value} (h : Blk w g t #[x0, x1, x2]) (a0 a1 a2 : Value) :
  Blk (((w.setCell ⟨g, 0, none⟩ a0).setCell ⟨g, 1, none⟩ a1).setCell ⟨g, 2, none⟩ a2) g t #[a0, a1, a2] := ((h.set_ 0 a0).set_ 1 a1).set_ 2 a2
theorem fr_three {S : List Nat} {w w1 : World} (h : Fr S w w1) {g : Nat} (hg : g ∈ S ∨ w.heap.size ≤ g) (a0 a1 a2 : Value) :
  Fr S w (((w1.setCell ⟨g, 0, none⟩ a0).setCell ⟨g, 1, none⟩ a1).setCell ⟨g, 2, none⟩ a2) :=
 ((h.setCell (p := ⟨g, 0, none⟩) hg _).setCell (p := ⟨g, 1, none⟩) hg _).setCell (p := ⟨g, 2, none⟩) hg _
theorem results_tree {fn : Func} {p : Tmp} (h : fn.results = #[.cell p 27]) (tmps : Array Value) (w : World) (g : Nat) {a0 a1 a2 : Value} (hp : tmps.getD p undef = .pointer (some ⟨g, 0, none⟩)) (hb : Blk w g 27 #[a0, a1, a2]) :
  (results fn tmps).run Tryz.prog w = .ok (.agg #[a0, a1, a2]) w := by
 have c0 := hb.cell 0 rfl
 have c1 := hb.cell 1 rfl
 have c2 := hb.cell 2 rfl
 simp only [Array.getD_eq_getD_getElem?] at hp
 simp [results, h, go_sem, hp, c0, c1, c2]
theorem results_tree2 {fn : Func} {p t : Tmp} (h : fn.results = #[.cell p 27, .tmp t]) (tmps : Array Value) (w : World) (g : Nat) {a0 a1 a2 : Value} (hp : tmps.getD p undef = .pointer (some ⟨g, 0, none⟩)) (hb : Blk w g 27 #[a0, a1, a2]) :
  (results fn tmps).run Tryz.prog w = .ok (.tuple #[.agg #[a0, a1, a2], tmps.getD t undef]) w := by
 have c0 := hb.cell 0 rfl
 have c1 := hb.cell 1 rfl
 have c2 := hb.cell 2 rfl
 simp only [Array.getD_eq_getD_getElem?] at hp
 simp [results, h, go_sem, hp, c0, c1, c2]
set_option maxRecDepth 20000 in
set_option maxHeartbeats 3200000 in
theorem least_any (A B : Option Addr) (c d : Nat) (g : List Ru) (L : List Int) (hok : LOk g L) (m : Nat) : ∀ (k : Nat) (w : World), RRu w A c g → Rd w (.int .i64) B d L → k < g.length → getI L k ≤ m → getI L k < MUCH →
    Calls Tryz.prog 50 #[.agg #[.slice A g.length c], .slice B g.length d, .int .i64 (k : Nat)] w (RetT m w (leastF g L m k)) := by
  have hll : L.length = g.length := hok.sz.1
  induction m with
  | zero =>
    intro k w _ _ hk h1 _
    have := hok.sz.all_pos (by decide) hok.ok hok.pos k (by omega) (by omega)
    omega
  | succ m ih =>
    intro k w ha hL hk h1 h2
    obtain ⟨b, off, r, A1, c1, rfl, hr, e0, e1, e2, e3, hSl⟩ := ha.at_ hk
    have hsb := hSl.bound
    have hgb := ha.bound
    have hs := Lib.hid (leastF_slots (L := L) (m := m) hr.out)
    have hfew := hok.few r (List.mem_of_getElem? hr.out)
    have HE : Hid (leastF g L (m + 1) k = .mk k emptyS (r.slots.map (leastRow g L m))) := by
      show _ = _
      rw [← T.eta (leastF g L (m + 1) k), hs.out, leastF_kind, leastF_text]
    have HX : Hid (∀ s ∈ r.slots, s.many = 0 → ∃ j : Nat, lowestL L s.kinds = j ∧ j < g.length ∧ getI L j ≤ m ∧ getI L j < MUCH) := fun s hs hm => by
      obtain ⟨j, hj, hjl⟩ := hok.low hr.out hs
      have hl := hok.less hr.out hs hm h2
      rw [hj] at hl
      exact ⟨j, hj, hjl, by omega, by omega⟩
    have HK : Hid (∀ s ∈ r.slots, s.kinds ≠ [] ∧ ∀ x ∈ s.kinds, 0 ≤ x ∧ x < g.length) := hok.ok r (List.mem_of_getElem? hr.out)
    clear h1 h2 hs
    rw [HE.out]
    obtain ⟨W3, hW3⟩ : ∃ W, W = ((w.alloc (.cells #[.slice (some ⟨b, off, none⟩) g.length c] 24)).alloc (.cells #[.int .i64 0, .string emptyS, .slice none 0 0] 27)).alloc (.cells #[.int .i64 (k : Nat), .string emptyS, .slice none 0 0] 27) := ⟨_, rfl⟩
    have hF3 : Fr [] w W3 := by rw [hW3]; exact frx
    have hB1 : Blk W3 w.heap.size 24 #[.slice (some ⟨b, off, none⟩) g.length c] := by rw [hW3]; exact ((Blk.new w _ _ _ rfl).alloc _).alloc _
    have hB2 : Blk W3 (w.heap.size + 1) 27 #[.int .i64 0, .string emptyS, .slice none 0 0] := by rw [hW3]; exact (Blk.new _ _ _ _ (by simp)).alloc _
    have hB3 : Blk W3 (w.heap.size + 1 + 1) 27 #[.int .i64 (k : Nat), .string emptyS, .slice none 0 0] := by rw [hW3]; exact Blk.new _ _ _ _ (by simp)
    have hz3 : W3.heap.size = w.heap.size + 3 := by rw [hW3]; simp
    have q3 := hF3.cell e3 (by simp)
    rw [hW3] at q3
    have HW3 := Lib.hid hW3.symm
    clear hW3
    go_enter Tryz.func50, Tryz.ntmps50
    go_wp2_with fail
    rw [HW3.out]
    clear q3
    go_loopw [20] (fun i wr => ∃ (j : Nat) (AO : Option Addr) (cO : Nat) (G : List RowH), j ≤ r.slots.length ∧ i = .int .i64 j ∧ Hid (G.map (·.1) = (r.slots.take j).map (leastRow g L m)) ∧ GR m (w.heap.size + 3) wr AO cO G ∧
      Blk wr w.heap.size 24 #[.slice (some ⟨b, off, none⟩) g.length c] ∧ Blk wr (w.heap.size + 1) 27 #[.int .i64 0, .string emptyS, .slice none 0 0] ∧ Blk wr (w.heap.size + 1 + 1) 27 #[.int .i64 (k : Nat), .string emptyS, .slice AO G.length cO] ∧ Fr [] w wr) (fun i _ => r.slots.length - (intOf i).toNat)
    case atStart => exact ⟨0, none, 0, [], Nat.zero_le _, rfl, rfl, GR.nil_ _ _ _, hB1, hB2, hB3, hF3⟩
    case round =>
      clear hB1 hB2 hB3 hF3
      obtain ⟨j, AO, cO, G, hj, rfl, hGm, hG, hB1, hB2, hB3, hf⟩ := hrel
      have hGl : Hid (G.length = j) := by
        show _ = _
        have := congrArg List.length hGm.out
        simpa [Nat.min_eq_left hj] using this
      have hgl2 : G.length ≤ 1000 := by rw [hGl.out]; omega
      have q1 := hB1.cell 0 rfl
      have p0 := hB3.cell 0 rfl
      have p1 := hB3.cell 1 rfl
      have p2 := hB3.cell 2 rfl
      have p3 := hB3.frozen 2
      by_cases hlt : j < r.slots.length
      · obtain ⟨b2, off2, s, A4, c4, rfl, hs, hm, s0, s1, hks, s2⟩ := (hSl.fr0 hf).at_ hlt
        have hsm := List.mem_of_getElem? hs.out
        have hHX := Lib.hid (HX.out s hsm)
        obtain ⟨hkn, hkr⟩ := HK.out s hsm
        have HKN := Lib.hid hkn
        have HKR := Lib.hid hkr
        have hts : Hid ((r.slots.take (j + 1)).map (leastRow g L m) = (r.slots.take j).map (leastRow g L m) ++ [leastRow g L m s]) := by show _ = _; rw [List.take_add_one, hs.out]; simp
        have hzr := hB3.lt
        have hGo := hG.own
        clear hkn hkr hsm
        obtain ⟨mv, hmv⟩ : ∃ mv, s.many = mv := ⟨_, rfl⟩
        have HMV := Lib.hid hmv
        rw [hmv] at hm s0
        clear hmv
        by_cases hmz : mv = 0
        · subst hmz
          have hrow : Hid (leastRow g L m s = [leastF g L m (lowestL L s.kinds)]) := by show _ = _; unfold leastRow; rw [if_pos HMV.out]
          obtain ⟨jn, hjn, hjl, hj1, hj2⟩ := hHX.out HMV.out
          have HJ := Lib.hid hjn
          clear hjn
          obtain ⟨W4, hW4⟩ : ∃ W, W = wr.alloc (.cells #[.int .u8 0, .slice A4 s.kinds.length c4, .string s.between] 55) := ⟨_, rfl⟩
          have hf4 : Fr [] wr W4 := by rw [hW4]; exact frx
          have hB4 : Blk W4 wr.heap.size 55 #[.int .u8 0, .slice A4 s.kinds.length c4, .string s.between] := by rw [hW4]; exact Blk.new _ _ _ _ rfl
          have hF4 := hf.trans hf4
          have hks4 := hks.fr0 hf4
          have k0 := hB4.cell 0 rfl
          have k1 := hB4.cell 1 rfl
          have q4 := hf4.cell q1 (by simp)
          rw [hW4] at k0
          have HW4 := Lib.hid hW4.symm
          clear hW4
          go_wp2_with fail
          rw [HW4.out]
          clear k0
          go_region_held3 (fun w' => w'.cell? ⟨w.heap.size, 0, none⟩ = some (.slice (some ⟨b, off, none⟩) g.length c) ∧ w'.cell? ⟨wr.heap.size, 1, none⟩ = some (.slice A4 s.kinds.length c4))
            (first
              | go_keep
              | exact ⟨hFb.cell q4 (by simp), hFb.cell k1 (by simp)⟩)
            (first
              | (go_at_call 71; refine (lowestn_any g.length B A4 d c4 L s.kinds _ hll (hL.fr0 (Fr.trans hF4 frx)) (hks4.fr0 frx) HKN.out HKR.out).mono ?_; rw [HJ.out]; rintro e wa ⟨rfl, na, rfl⟩)
              | (go_at_call 50; refine (ih jn _ (ha.fr0 (Fr.trans hF4 frx)) (hL.fr0 (Fr.trans hF4 frx)) hjl hj1 hj2).mono ?_; rintro e wb ⟨A5, c5, rfl, hfb, hRb⟩; have hFb : Fr [] W4 wb := (Fr.trans frx hfb)))
          have hxk := leastF_kind g L m jn
          obtain ⟨x, hx⟩ : ∃ x, leastF g L m jn = x := ⟨_, rfl⟩
          rw [HJ.out, hx] at hrow
          rw [hx] at hRb
          simp only [hx]
          clear hx hxk
          obtain ⟨W6, hW6⟩ : ∃ W, W = wb.alloc (.cells (tcells x A5 c5) 27) := ⟨_, rfl⟩
          have hF6 : Fr [] wr W6 := by rw [hW6]; exact (hf4.trans hFb).alloc _
          have hzb := hFb.size
          have hz4 := hf4.size
          have hbl := hG.bad_lt (by omega)
          have hRow : RowAt (Bad (w.heap.size + 3) AO) m W6 (some ⟨wb.heap.size, 0, none⟩) 1 [x] := by
            rw [hW6]
            exact RowAt.one (fun h => by have := hbl _ h; omega) (RH.sub (S := fun k => k < W4.heap.size) hRb fun k _ hk => Nat.lt_of_lt_of_le (hbl k hk) hz4)
          have hG6 := hG.fr0 hF6
          have hB16 := hB1.fr hF6 (by simp)
          have hB26 := hB2.fr hF6 (by simp)
          have hB36 := hB3.fr hF6 (by simp)
          have p2 := hB36.cell 2 rfl
          have hzr := hB36.lt
          have HW6 := Lib.hid hW6.symm
          have p26 := (hB36.alloc (.cells #[.slice (some ⟨wb.heap.size, 0, none⟩) 1 1] 59)).cell 2 rfl
          clear hW6 hRb
          simp only [tcells] at HW6
          rw [HW6.out]
          go_wp2_with (at_builtin; go_loud (refine wpList_append_rd rfl (.tmp 36) (.tmp 38) _ rfl elemRows (.slice AO G.length cO) (G.map encRow) rfl (hG6.own.alloc _) (some ⟨_, 0, none⟩) 1 [(([x], some ⟨wb.heap.size, 0, none⟩, 1) : RowH)] encRow rfl (Rd.one W6 _ encRow (([x], some ⟨wb.heap.size, 0, none⟩, 1) : RowH)) one_row (by simp; omega) (by simp; omega) ?_; intro A7 c7 w7 ho7 hg7 hat7; have hB37 := (hB36.alloc _).grown hg7 (hG6.ne (by omega)); have r2 := hB37.cell 2 rfl; have r3 := hB37.frozen 2))
          go_roundw
          case rel =>
            have hGa := hG6.fr0 ((Fr.refl [] _).alloc (.cells #[encRow (([x], some ⟨wb.heap.size, 0, none⟩, 1) : RowH)] 59))
            have hGb := (hGa.snoc (p := (([x], some ⟨wb.heap.size, 0, none⟩, 1) : RowH)) (RowAt.fr hRow (Z := []) ((Fr.refl _ _).alloc _) (by simp)) rfl hg7 hat7 ho7).fr ((Fr.refl [w.heap.size + 1 + 1] w7).setCell (p := ⟨w.heap.size + 1 + 1, 2, none⟩) (.inl (by simp)) (.slice A7 (G.length + 1) c7)) (by simp)
            refine ⟨j + 1, A7, c7, G ++ [(([x], some ⟨wb.heap.size, 0, none⟩, 1) : RowH)], by omega, by go_num, ?_, hGb, ((hB16.alloc _).grown hg7 (hG6.ne (by omega))).far (by show w.heap.size ≠ w.heap.size + 1 + 1; omega) _, ((hB26.alloc _).grown hg7 (hG6.ne (by omega))).far (by show w.heap.size + 1 ≠ w.heap.size + 1 + 1; omega) _, ?_, (Fr.app ((hf.trans hF6).alloc _) hGa.own (by omega) hg7).setCell (.inr (by show w.heap.size ≤ w.heap.size + 1 + 1; omega)) _⟩
            · show _ = _
              rw [List.map_append, hGm.out, hts.out, hrow.out]
              rfl
            · have := hB37.set_ 2 (.slice A7 (G.length + 1) c7)
              simpa using this
          case measure => simp [intOf]; omega
        · have hrow : Hid (leastRow g L m s = []) := by show _ = _; unfold leastRow; rw [if_neg (by rw [HMV.out]; exact hmz)]
          have hd : (mv == 0) = false := by simp [hmz]
          obtain ⟨W6, hW6⟩ : ∃ W, W = wr.alloc (.cells #[.int .u8 mv, .slice A4 s.kinds.length c4, .string s.between] 55) := ⟨_, rfl⟩
          have hF6 : Fr [] wr W6 := by rw [hW6]; exact frx
          have hB4 : Blk W6 wr.heap.size 55 #[.int .u8 mv, .slice A4 s.kinds.length c4, .string s.between] := by rw [hW6]; exact Blk.new _ _ _ _ rfl
          have k0 := hB4.cell 0 rfl
          have hG6 := hG.fr0 hF6
          have hB16 := hB1.fr hF6 (by simp)
          have hB26 := hB2.fr hF6 (by simp)
          have hB36 := hB3.fr hF6 (by simp)
          have p2 := hB36.cell 2 rfl
          have hzr := hB36.lt
          rw [hW6] at k0 p2
          have HW6 := Lib.hid hW6.symm
          have p26 := (hB36.alloc (.cells #[.slice none 0 0] 59)).cell 2 rfl
          rw [← HW6.out] at p26
          have HZ6 : Hid (wr.heap.size + 1 = W6.heap.size) := by show _ = _; rw [← HW6.out]; simp
          go_wp2_with (at_builtin; rw [HW6.out] at *; rw [HZ6.out]; go_loud (refine wpList_append_rd rfl (.tmp 36) (.tmp 38) _ rfl elemRows (.slice AO G.length cO) (G.map encRow) rfl (hG6.own.alloc _) (some ⟨_, 0, none⟩) 1 [(([], none, 0) : RowH)] encRow rfl (Rd.one W6 _ encRow (([], none, 0) : RowH)) one_row (by simp; omega) (by simp; omega) ?_; intro A7 c7 w7 ho7 hg7 hat7; have hB37 := (hB36.alloc _).grown hg7 (hG6.ne (by omega)); have r2 := hB37.cell 2 rfl; have r3 := hB37.frozen 2))
          go_roundw
          case rel =>
            have hGa := hG6.fr0 ((Fr.refl [] _).alloc (.cells #[encRow (([], none, 0) : RowH)] 59))
            have hGb := (hGa.snoc (p := (([], none, 0) : RowH)) RowAt.nil_ rfl hg7 hat7 ho7).fr ((Fr.refl [w.heap.size + 1 + 1] w7).setCell (p := ⟨w.heap.size + 1 + 1, 2, none⟩) (.inl (by simp)) (.slice A7 (G.length + 1) c7)) (by simp)
            refine ⟨j + 1, A7, c7, G ++ [(([], none, 0) : RowH)], by omega, by go_num, ?_, hGb, ((hB16.alloc _).grown hg7 (hG6.ne (by omega))).far (by show w.heap.size ≠ w.heap.size + 1 + 1; omega) _, ((hB26.alloc _).grown hg7 (hG6.ne (by omega))).far (by show w.heap.size + 1 ≠ w.heap.size + 1 + 1; omega) _, ?_, (Fr.app ((hf.trans hF6).alloc _) hGa.own (by omega) hg7).setCell (.inr (by show w.heap.size ≤ w.heap.size + 1 + 1; omega)) _⟩
            · show _ = _
              rw [List.map_append, hGm.out, hts.out, hrow.out]
              rfl
            · have := hB37.set_ 2 (.slice A7 (G.length + 1) c7)
              simpa using this
          case measure => simp [intOf]; omega
      · have hRB := hG.rowsB
        have hEE : Hid (G.map (·.1) = r.slots.map (leastRow g L m)) := by show _ = _; rw [hGm.out, List.take_of_length_le (by omega)]
        rw [hEE.out] at hRB
        have hGle : Hid (G.length = (r.slots.map (leastRow g L m)).length) := by show _ = _; rw [← hEE.out, List.length_map]
        have u0 := hB2.cell 0 rfl
        have u1 := hB2.cell 1 rfl
        have u2 := hB2.cell 2 rfl
        have v0 := hB2.frozen 0
        have v1 := hB2.frozen 1
        have v2 := hB2.frozen 2
        have hzr := hB3.lt
        go_wp2_with fail
        refine bodyPost_ret (results_tree rfl _ _ (w.heap.size + 1) rfl (hB2.three _ _ _)) rfl ?_
        rw [hGle.out]
        refine ⟨AO, cO, rfl, fr_three hf (.inr (by omega)) _ _ _, ?_⟩
        have hRH : RH (fun k => k < w.heap.size + 3) (m + 1) wr AO cO (T.mk k emptyS (r.slots.map (leastRow g L m))) := hRB
        exact (hRH.fr (fr_three (S := [w.heap.size + 1]) (Fr.refl _ _) (.inl (by simp)) _ _ _) (by simp)).sub fun k _ hk => by omega
end

/- least of the reference. -/
section
open Go.RowKit
set_option maxRecDepth 20000 in
set_option maxHeartbeats 3200000 in
theorem refleast_any (A B : Option Addr) (c d : Nat) (g : List Ru) (L : List Int) (hok : LOk g L) (m : Nat) : ∀ (k : Nat) (w : World), RRu w A c g → Rd w (.int .i64) B d (L.map dnI) → k < g.length → getI L k ≤ m → getI L k ≤ 1024 →
    Calls Tryz.prog 40 #[.agg #[.slice A g.length c], .slice B g.length d, .int .i64 (k : Nat)] w (RetT m w (leastF g L m k)) := by
  have hll : (L.map dnI).length = g.length := by rw [List.length_map]; exact hok.sz.1
  induction m with
  | zero =>
    intro k w _ _ hk h1 _
    have := hok.sz.all_pos (by decide) hok.ok hok.pos k (by omega) (by omega)
    omega
  | succ m ih =>
    intro k w ha hL hk h1 h2
    obtain ⟨b, off, r, A1, c1, rfl, hr, e0, e1, e2, e3, hSl⟩ := ha.at_ hk
    have hsb := hSl.bound
    have hgb := ha.bound
    have hs := Lib.hid (leastF_slots (L := L) (m := m) hr.out)
    have hfew := hok.few r (List.mem_of_getElem? hr.out)
    have HE : Hid (leastF g L (m + 1) k = .mk k emptyS (r.slots.map (leastRow g L m))) := by
      show _ = _
      rw [← T.eta (leastF g L (m + 1) k), hs.out, leastF_kind, leastF_text]
    have HX : Hid (∀ s ∈ r.slots, s.many = 0 → ∃ j : Nat, lowestL L s.kinds = j ∧ j < g.length ∧ getI L j ≤ m ∧ getI L j ≤ 1024 ∧ choiceF (L.map dnI) s.kinds = j) := fun s hs hm => by
      obtain ⟨j, hj, hjl⟩ := hok.low hr.out hs
      have hl := hok.less hr.out hs hm (by unfold MUCH; omega)
      have hks := hok.ok r (List.mem_of_getElem? hr.out) s hs
      rw [← hok.sz.1] at hks
      have hc := choice_eq hok.pos hks.1 hks.2
      rw [hj] at hl hc
      exact ⟨j, hj, hjl, by omega, by omega, by omega⟩
    have HK : Hid (∀ s ∈ r.slots, s.kinds ≠ [] ∧ ∀ x ∈ s.kinds, 0 ≤ x ∧ x < g.length) := hok.ok r (List.mem_of_getElem? hr.out)
    clear h1 h2 hs
    rw [HE.out]
    obtain ⟨W3, hW3⟩ : ∃ W, W = ((w.alloc (.cells #[.slice (some ⟨b, off, none⟩) g.length c] 24)).alloc (.cells #[.int .i64 0, .string emptyS, .slice none 0 0] 27)).alloc (.cells #[.string r.before, .string r.after, .bool r.leaf, .slice A1 r.slots.length c1] 51) := ⟨_, rfl⟩
    have hF3 : Fr [] w W3 := by rw [hW3]; exact frx
    have hB1 : Blk W3 w.heap.size 24 #[.slice (some ⟨b, off, none⟩) g.length c] := by rw [hW3]; exact ((Blk.new w _ _ _ rfl).alloc _).alloc _
    have hB2 : Blk W3 (w.heap.size + 1) 27 #[.int .i64 0, .string emptyS, .slice none 0 0] := by rw [hW3]; exact (Blk.new _ _ _ _ (by simp)).alloc _
    have hB3 : Blk W3 (w.heap.size + 1 + 1) 51 #[.string r.before, .string r.after, .bool r.leaf, .slice A1 r.slots.length c1] := by rw [hW3]; exact Blk.new _ _ _ _ (by simp)
    have HZ3 : Hid (W3.heap.size = w.heap.size + 1 + 1 + 1) := by show _ = _; rw [hW3]; simp
    have q3 := hB3.cell 3 rfl
    rw [hW3] at q3
    have HW3 := Lib.hid hW3.symm
    clear hW3
    have e0 := fun o1 o2 => (((Fr.refl [] w).alloc o1).alloc o2).cell e0 (by simp)
    have e1 := fun o1 o2 => (((Fr.refl [] w).alloc o1).alloc o2).cell e1 (by simp)
    have e2 := fun o1 o2 => (((Fr.refl [] w).alloc o1).alloc o2).cell e2 (by simp)
    have e3 := fun o1 o2 => (((Fr.refl [] w).alloc o1).alloc o2).cell e3 (by simp)
    go_enter Tryz.func40, Tryz.ntmps40
    go_wp2_with (at_make; rw [HW3.out]; refine wpList_makeN rfl _ _ _ rfl elemRows rfl r.slots.length rfl rfl (by omega) ?_; intro w4 hown4 hg4; rw [HZ3.out] at hown4 ⊢)
    clear q3 e0 e1 e2 e3
    have hf34 : Fr [] W3 w4 := (Fr.refl _ _).grown hg4 (by simp)
    obtain ⟨W5, hW5⟩ : ∃ W, W = w4.alloc (.cells #[.int .i64 (k : Nat), .string emptyS, .slice (some ⟨w.heap.size + 1 + 1 + 1, 0, none⟩) r.slots.length r.slots.length] 27) := ⟨_, rfl⟩
    have hz4 : w.heap.size + 1 + 1 + 1 < w4.heap.size := (hown4.lt _ rfl).2
    have hf45 : Fr [] w4 W5 := by rw [hW5]; exact frx
    have hF5 : Fr [] W3 W5 := hf34.trans hf45
    have hB15 := hB1.fr hF5 (by simp)
    have hB25 := hB2.fr hF5 (by simp)
    have hB35 := hB3.fr hF5 (by simp)
    have hB45 : Blk W5 w4.heap.size 27 #[.int .i64 (k : Nat), .string emptyS, .slice (some ⟨w.heap.size + 1 + 1 + 1, 0, none⟩) r.slots.length r.slots.length] := by rw [hW5]; exact Blk.new _ _ _ _ rfl
    have hG5 : GR m (w.heap.size + 1 + 1) W5 (some ⟨w.heap.size + 1 + 1 + 1, 0, none⟩) r.slots.length (List.replicate r.slots.length (([], none, 0) : RowH)) := (GR.made (own_base hown4 (by omega))).fr0 hf45
    have hFw5 : Fr [] w W5 := hF3.trans hF5
    have HW5 := Lib.hid hW5.symm
    clear hW5 hown4 hg4
    rw [HW5.out]
    have hFZ : Hid (∀ k, Bad (w.heap.size + 1 + 1) (some ⟨w.heap.size + 1 + 1 + 1, 0, none⟩) k → k ≤ w.heap.size + 1 + 1 + 1) := fun k hk => by
      rcases hk with hk | ⟨a, ha, rfl⟩
      · omega
      · injection ha with ha
        subst ha
        exact Nat.le_refl _
    go_loopw [9] (fun i wr => ∃ (j : Nat) (G : List RowH), j ≤ r.slots.length ∧ i = .int .i64 j ∧ Hid (G.map (·.1) = (r.slots.take j).map (leastRow g L m) ++ List.replicate (r.slots.length - j) []) ∧ Hid (G.length = r.slots.length) ∧ GR m (w.heap.size + 1 + 1) wr (some ⟨w.heap.size + 1 + 1 + 1, 0, none⟩) r.slots.length G ∧
      Blk wr w.heap.size 24 #[.slice (some ⟨b, off, none⟩) g.length c] ∧ Blk wr (w.heap.size + 1) 27 #[.int .i64 0, .string emptyS, .slice none 0 0] ∧ Blk wr (w.heap.size + 1 + 1) 51 #[.string r.before, .string r.after, .bool r.leaf, .slice A1 r.slots.length c1] ∧
      Blk wr w4.heap.size 27 #[.int .i64 (k : Nat), .string emptyS, .slice (some ⟨w.heap.size + 1 + 1 + 1, 0, none⟩) r.slots.length r.slots.length] ∧ Fr [] w wr) (fun i _ => r.slots.length - (intOf i).toNat)
    case atStart => exact ⟨0, _, Nat.zero_le _, rfl, by show _ = _; simp, by show _ = _; simp, hG5, hB15, hB25, hB35, hB45, hFw5⟩
    case round =>
      clear hG5 hB15 hB25 hB35 hB45 hFw5 hF5 hf45 hf34 hB1 hB2 hB3 hF3
      obtain ⟨j, G, hj, rfl, hGm, hGl, hG, hB1, hB2, hB3, hB4, hf⟩ := hrel
      have q1 := hB1.cell 0 rfl
      have q3 := hB3.cell 3 rfl
      have p2 := hB4.cell 2 rfl
      by_cases hlt : j < r.slots.length
      · obtain ⟨b2, off2, s, A4, c4, rfl, hs, hm, s0, s1, hks, s2⟩ := hSl.at_ hlt
        have hb2l := World.block_lt_of_cell? w _ s0
        have s0 := hf.cell s0 (by simp)
        have s1 := hf.cell s1 (by simp)
        have s2 := hf.cell s2 (by simp)
        have hks := hks.fr0 hf
        have hsm := List.mem_of_getElem? hs.out
        have hHX := Lib.hid (HX.out s hsm)
        obtain ⟨hkn, hkr⟩ := HK.out s hsm
        have HKN := Lib.hid hkn
        have HKR := Lib.hid hkr
        have hts : Hid (∀ row, row = leastRow g L m s → (r.slots.take (j + 1)).map (leastRow g L m) ++ List.replicate (r.slots.length - (j + 1)) [] = ((r.slots.take j).map (leastRow g L m) ++ List.replicate (r.slots.length - j) []).set j row) := fun row hrow => by
          obtain ⟨q, hq⟩ : ∃ q, r.slots.length - j = q + 1 := ⟨r.slots.length - j - 1, by omega⟩
          rw [hq, show r.slots.length - (j + 1) = q by omega, List.take_add_one, hs.out, List.set_append_right _ _ (by simp; omega)]
          simp only [List.length_map, List.length_take, Nat.min_eq_left (Nat.le_of_lt hlt), Nat.sub_self]
          rw [List.replicate_succ, List.set_cons_zero, hrow]
          simp
        have hGo := hG.own
        have hGb := hG.blk hGl.out (by omega)
        clear hkn hkr hsm
        obtain ⟨mv, hmv⟩ : ∃ mv, s.many = mv := ⟨_, rfl⟩
        have HMV := Lib.hid hmv
        rw [hmv] at hm s0
        clear hmv
        by_cases hmz : mv = 0
        · subst hmz
          have hrow : Hid (leastRow g L m s = [leastF g L m (lowestL L s.kinds)]) := by show _ = _; unfold leastRow; rw [if_pos HMV.out]
          obtain ⟨jn, hjn, hjl, hj1, hj2, hjc⟩ := hHX.out HMV.out
          have HJ := Lib.hid hjn
          have HC := Lib.hid hjc
          obtain ⟨y, hy⟩ : ∃ y, (G.map encRow).toArray[j]? = some y := ⟨_, Array.getElem?_eq_getElem (by simp [hGl.out]; exact hlt)⟩
          have g0 := hGb.cell j hy
          have g1 := hGb.frozen j
          have hz := hG.bad_lt
          clear hjn hjc hy
          go_wp2_with fail
          go_region_held3 (fun w' => w'.cell? ⟨w.heap.size, 0, none⟩ = some (.slice (some ⟨b, off, none⟩) g.length c) ∧ w'.cell? ⟨w.heap.size + 1 + 1, 3, none⟩ = some (.slice (some ⟨b2, off2, none⟩) r.slots.length c1) ∧ w'.cell? ⟨w4.heap.size, 2, none⟩ = some (.slice (some ⟨w.heap.size + 1 + 1 + 1, 0, none⟩) r.slots.length r.slots.length) ∧
              w'.cell? ⟨b2, off2 + j * 3, none⟩ = some (.int .u8 0) ∧ w'.cell? ⟨b2, off2 + j * 3 + 1, none⟩ = some (.slice A4 s.kinds.length c4) ∧ w'.cell? ⟨b2, off2 + j * 3 + 2, none⟩ = some (.string s.between))
            (first
              | (go_keep; done)
              | exact ⟨hFa.cell q1 (by simp), hFa.cell q3 (by simp), hFa.cell p2 (by simp), hFa.cell s0 (by simp), hFa.cell s1 (by simp), hFa.cell s2 (by simp)⟩
              | exact ⟨hFb.cell q1 (by simp), hFb.cell q3 (by simp), hFb.cell p2 (by simp), hFb.cell s0 (by simp), hFb.cell s1 (by simp), hFb.cell s2 (by simp)⟩
              | exact ⟨(hFb.alloc _).cell q1 (by simp), (hFb.alloc _).cell q3 (by simp), (hFb.alloc _).cell p2 (by simp), (hFb.alloc _).cell s0 (by simp), (hFb.alloc _).cell s1 (by simp), (hFb.alloc _).cell s2 (by simp)⟩
              | exact ⟨(hFs _ _).cell q1 (by first | (simp; done) | (simp; omega)), (hFs _ _).cell q3 (by first | (simp; done) | (simp; omega)), (hFs _ _).cell p2 (by first | (simp; done) | (simp; omega)), (hFs _ _).cell s0 (by first | (simp; done) | (simp; omega)), (hFs _ _).cell s1 (by first | (simp; done) | (simp; omega)), (hFs _ _).cell s2 (by first | (simp; done) | (simp; omega))⟩)
            (first
              | (go_at_call 65; refine (choice_any g.length B A4 d c4 _ s.kinds _ (L.map dnI) _ hll (hL.fr0 (Fr.trans hf frx)) (hks.fr0 frx) HKR.out).mono ?_; rw [HC.out]; rintro e wa ⟨rfl, hfa⟩; have hFa : Fr [] wr wa := (Fr.trans frx hfa))
              | (go_at_call 40; refine (ih jn _ (ha.fr0 (Fr.trans hf frx)) (hL.fr0 (Fr.trans hf frx)) hjl hj1 hj2).mono ?_; rintro e wb ⟨A5, c5, rfl, hfb, hRb⟩; have hFb : Fr [] wr wb := (Fr.trans frx hfb); have st0 := fun o => (hFb.alloc o).cell g0 (by simp); have st1 := fun o => (hGb.fr (hFb.alloc o) (by simp)).frozen j; have hFs := fun o v => Fr.setCell (S := [w.heap.size + 1 + 1 + 1]) (p := ⟨w.heap.size + 1 + 1 + 1, j, none⟩) ((hFb.alloc o).mono (by simp)) (.inl (by simp)) v))
          obtain ⟨x, hx⟩ : ∃ x, leastF g L m jn = x := ⟨_, rfl⟩
          rw [HJ.out, hx] at hrow
          rw [hx] at hRb
          simp only [hx]
          clear hx
          have hzr := hB4.lt
          have hzb := hFb.size
          have hRow : RowAt (Bad (w.heap.size + 1 + 1) (some ⟨w.heap.size + 1 + 1 + 1, 0, none⟩)) m (wb.alloc (.cells (tcells x A5 c5) 27)) (some ⟨wb.heap.size, 0, none⟩) 1 [x] :=
            RowAt.one (fun h => by have := hFZ.out _ h; omega) (RH.sub (S := fun k => k < wr.heap.size) (hRb.sub fun k _ hk => Nat.lt_of_lt_of_le hk (by first | exact Nat.le_refl _ | exact hFa.size | (have := hFa.size; exact this))) fun k _ hk => Nat.lt_of_le_of_lt (hFZ.out k hk) (by omega))
          have hGn := (hG.fr0 (hFb.alloc (.cells (tcells x A5 c5) 27))).set_ (i := j) (p := ([x], some ⟨wb.heap.size, 0, none⟩, 1)) hGl.out hlt hRow
          have hF6 := hFs (.cells (tcells x A5 c5) 27) (.slice (some ⟨wb.heap.size, 0, none⟩) 1 1)
          go_wp2_with fail
          go_roundw
          case rel =>
            refine ⟨j + 1, G.set j ([x], some ⟨wb.heap.size, 0, none⟩, 1), by omega, by go_num, ?_, ?_, hGn, hB1.fr hF6 (by simp; omega), hB2.fr hF6 (by simp), hB3.fr hF6 (by simp), hB4.fr hF6 (by simp; omega), hf.trans2 hF6 (fun k hk => .inr (by simp at hk; omega))⟩
            · show _ = _
              rw [List.map_set, hGm.out]
              exact (hts.out _ hrow.out.symm).symm
            · show _ = _
              rw [List.length_set]
              exact hGl.out
          case measure => simp [intOf]; omega
        · have hd : (mv == 0) = false := by simp [hmz]
          have hrow : Hid ([] = leastRow g L m s) := by show _ = _; unfold leastRow; rw [if_neg (by rw [HMV.out]; exact hmz)]
          have hget : Hid (((r.slots.take j).map (leastRow g L m) ++ List.replicate (r.slots.length - j) []).set j [] = (r.slots.take j).map (leastRow g L m) ++ List.replicate (r.slots.length - j) []) := by
            show _ = _
            obtain ⟨q, hq⟩ : ∃ q, r.slots.length - j = q + 1 := ⟨r.slots.length - j - 1, by omega⟩
            rw [hq, List.set_append_right _ _ (by simp; omega)]
            simp only [List.length_map, List.length_take, Nat.min_eq_left (Nat.le_of_lt hlt), Nat.sub_self]
            rw [List.replicate_succ, List.set_cons_zero]
          go_wp2_with fail
          go_roundw
          case rel => exact ⟨j + 1, G, by omega, by go_num, by show _ = _; rw [hts.out _ hrow.out, hget.out, hGm.out], hGl, hG, hB1, hB2, hB3, hB4, hf⟩
          case measure => simp [intOf]; omega
      · have hRB := hG.rowsB
        have hEE : Hid (G.map (·.1) = r.slots.map (leastRow g L m)) := by show _ = _; rw [hGm.out, List.take_of_length_le (by omega), show r.slots.length - j = 0 by omega]; simp
        rw [hEE.out] at hRB
        have hGle : Hid (r.slots.length = (r.slots.map (leastRow g L m)).length) := by show _ = _; rw [List.length_map]
        have u0 := hB2.cell 0 rfl
        have u1 := hB2.cell 1 rfl
        have u2 := hB2.cell 2 rfl
        have v0 := hB2.frozen 0
        have v1 := hB2.frozen 1
        have v2 := hB2.frozen 2
        have t0 := hB4.cell 0 rfl
        have t1 := hB4.cell 1 rfl
        have hzr := hB4.lt
        go_wp2_with fail
        refine bodyPost_ret (results_tree rfl _ _ (w.heap.size + 1) rfl (hB2.three _ _ _)) rfl ?_
        refine ⟨some ⟨w.heap.size + 1 + 1 + 1, 0, none⟩, r.slots.length, by unfold tcells; rw [show (T.mk k emptyS (r.slots.map (leastRow g L m))).slots.length = r.slots.length from hGle.out.symm]; rfl, fr_three hf (.inr (by omega)) _ _ _, ?_⟩
        have hRH : RH (fun k => k < w.heap.size + 1 + 1) (m + 1) wr (some ⟨w.heap.size + 1 + 1 + 1, 0, none⟩) r.slots.length (T.mk k emptyS (r.slots.map (leastRow g L m))) := hRB
        exact (hRH.fr (fr_three (S := [w.heap.size + 1]) (Fr.refl _ _) (.inl (by simp)) _ _ _) (by simp)).sub fun k _ hk => by omega
end

end Go.Proofs.YtippadnbngcjlaaGreatDoor
