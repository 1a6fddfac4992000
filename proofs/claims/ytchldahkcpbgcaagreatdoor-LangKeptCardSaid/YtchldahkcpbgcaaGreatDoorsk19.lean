/- Texts of this seat, one behind the other: ParY, ParQ, ParX, ParO, ParK. -/
import Derived.Test.YtchldahkcpbgcaaGreatDoorsk18
import Derived.Deep.LoopGhost
import Derived.Deep.DeepCutAuto
import Derived.Test.YtchldahkcpbgcaaGreatDoorsk2
namespace Go.Proofs.YtchldahkcpbgcaaGreatDoor
set_option linter.unusedVariables false

/- binary of the parser (printed by gen/binary.py). -/
section
open Go.RowKit
set_option linter.unusedSimpArgs false
section
variable {X : Px} {i j : Nat}
abbrev nd2 (x : Nd) (h : HdN) (y : Nd) (g : HdN) : Array Value := #[.int .u8 x.kind, .string x.text, .int .i64 x.num, .slice h.As x.subs.length h.cs, .slice h.Ap x.params.length h.cp, .slice h.Ab x.body.length h.cb, .slice h.Ae x.els.length h.ce, .int .u8 y.kind, .string y.text, .int .i64 y.num, .slice g.As y.subs.length g.cs, .slice g.Ap y.params.length g.cp, .slice g.Ab y.body.length g.cb, .slice g.Ae y.els.length g.ce]
theorem nd2_eq (x : Nd) (h : HdN) (y : Nd) (g : HdN) : nd2 x h y g = ndCells x h ++ ndCells y g := by simp [nd2, ndCells]
theorem Blk.fr1 {w1 : World} {g : Nat} {t : TypeId} {cs : Array Value} (h : Blk w1 g t cs) (a0 a1 a2 a3 a4 a5 a6 : Value) :
  Fr [g] w1 (((((((w1.setCell ⟨g, 0, none⟩ a0).setCell ⟨g, 1, none⟩ a1).setCell ⟨g, 2, none⟩ a2).setCell ⟨g, 3, none⟩ a3).setCell ⟨g, 4, none⟩ a4).setCell ⟨g, 5, none⟩ a5).setCell ⟨g, 6, none⟩ a6) := fr_node1 w1 g a0 a1 a2 a3 a4 a5 a6
theorem fr_pb {w1 w2 : World} {g : Nat} {t : TypeId} {cs : Array Value} {p : Nat} (hB : Blk w1 g t cs) (hf : Fr [p] w1 w2) (hp : g ≠ p) : Blk w2 g t cs := hB.fr hf (by simp [hp])
set_option maxRecDepth 20000 in
set_option maxHeartbeats 6400000 in
theorem binary5_step {r : Out} (w : World) (h : X.At w i)
    (hu : ∀ w', X.At w' i → Calls Tryz.prog 254 #[X.p] w' (X.R2 w' r)) :
    Calls Tryz.prog 244 #[X.p, .int .i64 5] w (X.R2 w r) := by
  obtain ⟨V, hV⟩ : ∃ V, V = w.alloc (.cells zeroN 46) := ⟨_, rfl⟩
  have hf0 : Fr [] w V := by rw [hV]; exact frx
  have hB1 : Blk V w.heap.size 46 zeroN := by rw [hV]; exact Blk.new _ _ _ _ rfl
  have hpl := X.lt h
  have hz := hf0.size
  have hVz : w.heap.size < V.heap.size := hB1.lt
  have hV0 := h.fr0 hf0
  have HV := Lib.hid hV.symm
  have HE := Lib.hid hu
  clear hV hu
  cases r with
  | bad k =>
    have HE : Hid (∀ w', X.At w' i → Calls Tryz.prog 254 #[X.p] w' (X.Bad w' k)) := HE
    show Calls _ _ _ _ (X.Bad w k)
    go_enter Tryz.func244, Tryz.ntmps244
    go_wp2_with fail
    rw [HV.out]
    refine (levels_any V).mono ?_
    rintro en w1 ⟨bL, rfl, hf1, _⟩
    go_wp2_with fail
    refine (HE.out _ (hV0.fr0 hf1)).mono ?_
    rintro en w2 ⟨rfl, hf2⟩
    go_wp2_with fail
    exact ⟨rfl, rfl, ((hf0.trans hf1).mono (by simp)).trans hf2⟩
  | ok l b k =>
    have HE : Hid (∀ w', X.At w' i → Calls Tryz.prog 254 #[X.p] w' (X.Nd2 w' (hd1 l) b k)) := HE
    show Calls _ _ _ _ (X.Nd2 w (hd1 l) b k)
    generalize hd1 l = x at *
    go_enter Tryz.func244, Tryz.ntmps244
    go_wp2_with fail
    rw [HV.out]
    refine (levels_any V).mono ?_
    rintro en w1 ⟨bL, rfl, hf1, _⟩
    have hz1 := hf1.size
    go_wp2_with fail
    refine (HE.out _ (hV0.fr0 hf1)).mono ?_
    rintro en w3 ⟨hd, nn, rfl, hx, hf3, a3⟩
    have hz3 := hf3.size
    have hF3 : Fr [X.pb] w w3 := ((hf0.trans hf1).mono (by simp)).trans hf3
    have hD1 : Blk w3 w.heap.size 46 zeroN := (hB1.fr hf1 (by simp)).fr hf3 (by simp; omega)
    have c0 := hD1.cell 0 rfl
    have c1 := hD1.cell 1 rfl
    have c2 := hD1.cell 2 rfl
    have c3 := hD1.cell 3 rfl
    have c4 := hD1.cell 4 rfl
    have c5 := hD1.cell 5 rfl
    have c6 := hD1.cell 6 rfl
    have cz0 := hD1.frozen 0
    have cz1 := hD1.frozen 1
    have cz2 := hD1.frozen 2
    have cz3 := hD1.frozen 3
    have cz4 := hD1.frozen 4
    have cz5 := hD1.frozen 5
    have cz6 := hD1.frozen 6
    go_wp2_with fail
    refine bodyPost_ret (results_node2 rfl _ _ w.heap.size rfl (hD1.node _ _ _ _ _ _ _)) rfl ?_
    have hS := fr_node1 w3 w.heap.size (.int .u8 x.kind) (.string x.text) (.int .i64 x.num) (.slice hd.As x.subs.length hd.cs) (.slice hd.Ap x.params.length hd.cp) (.slice hd.Ab x.body.length hd.cb) (.slice hd.Ae x.els.length hd.ce)
    refine ⟨hd, nn, rfl, ?_, fr_node hF3 (.inr (Nat.le_refl _)) _ _ _ _ _ _ _, At.new h a3 hS (by simp)⟩
    exact (hx.fr hS (fun k hk => by simp at hk; subst hk; show w.heap.size < w1.heap.size; omega)).sub fun k _ hk => by show k < w1.heap.size; have : k < w.heap.size := hk; omega
set_option maxRecDepth 20000 in
set_option maxHeartbeats 6400000 in
theorem binary_step {n : Nat} {r : Out} (lv : Nat) (hlv : lv < 5) (w : World) (h : X.At w i) (hr : P X.ws (n + 1) (.bin lv) i = some r)
    (hb : ∀ m q k, m ≤ n → P X.ws m (.bin (lv + 1)) k = some q → ∀ w', X.At w' k → Calls Tryz.prog 244 #[X.p, .int .i64 ((lv : Int) + 1)] w' (X.R2 w' q)) :
    Calls Tryz.prog 244 #[X.p, .int .i64 lv] w (X.R2 w r) := by
  rw [P, if_neg (by omega)] at hr
  obtain ⟨V, hV⟩ : ∃ V, V = w.alloc (.cells zeroN 46) := ⟨_, rfl⟩
  have hf0 : Fr [] w V := by rw [hV]; exact frx
  have hB1 : Blk V w.heap.size 46 zeroN := by rw [hV]; exact Blk.new _ _ _ _ rfl
  have hpl := X.lt h
  have hz := hf0.size
  have hVz : w.heap.size < V.heap.size := hB1.lt
  have hV0 := h.fr0 hf0
  have hAt := h
  have HV := Lib.hid hV.symm
  have HH := Lib.hid hb
  have hl0 : (0 : Int) ≤ lv := by omega
  have hl5 : (lv : Int) < 5 := by omega
  have hq5 : ((lv : Int) == 5) = false := by simp; omega
  clear hV hb
  cases hq : P X.ws n (.bin (lv + 1)) i with
  | none => rw [hq] at hr; cases hr
  | some q =>
    rw [hq] at hr
    have HE := Lib.hid (HH.out n q i (Nat.le_refl _) hq)
    clear hq
    cases q with
    | bad k =>
      have hr : some (Out.bad k) = some r := hr
      injection hr with hr
      subst hr
      have HE : Hid (∀ w', X.At w' i → Calls Tryz.prog 244 #[X.p, .int .i64 ((lv : Int) + 1)] w' (X.Bad w' k)) := HE
      show Calls _ _ _ _ (X.Bad w k)
      go_enter Tryz.func244, Tryz.ntmps244
      go_wp2_with fail
      rw [HV.out]
      refine (levels_any V).mono ?_
      rintro en w1 ⟨bL, rfl, hf1, _⟩
      go_wp2_with fail
      refine (HE.out _ (hV0.fr0 hf1)).mono ?_
      rintro en w2 ⟨rfl, hf2⟩
      go_wp2_with fail
      exact ⟨rfl, rfl, ((hf0.trans hf1).mono (by simp)).trans hf2⟩
    | ok l b k =>
      have HR : Hid (P X.ws n (.binL lv (hd1 l) b) k = some r) := hr
      have HE : Hid (∀ w', X.At w' i → Calls Tryz.prog 244 #[X.p, .int .i64 ((lv : Int) + 1)] w' (X.Nd2 w' (hd1 l) b k)) := HE
      clear hr
      generalize hd1 l = x0 at *
      go_enter Tryz.func244, Tryz.ntmps244
      go_wp2_with fail
      rw [HV.out]
      refine (levels_any V).mono ?_
      rintro en w1 ⟨bL, rfl, hf1, _⟩
      have hz1 := hf1.size
      go_wp2_with fail
      refine (HE.out _ (hV0.fr0 hf1)).mono ?_
      rintro en w3 ⟨hd0, nn0, rfl, hx0, hf3, a3⟩
      have hz3 := hf3.size
      have hF3 : Fr [X.pb] w w3 := ((hf0.trans hf1).mono (by simp)).trans hf3
      have hD3 : Blk w3 w.heap.size 46 zeroN := (hB1.fr hf1 (by simp)).fr hf3 (by simp; omega)
      obtain ⟨g, hg⟩ : ∃ g, g = w3.heap.size := ⟨_, rfl⟩
      have hgw : w.heap.size < g := by omega
      have hN3 : Blk (w3.alloc (.cells (ndCells x0 hd0) 46)) g 46 (ndCells x0 hd0) := Blk.new _ _ _ _ hg
      have hW3 : Fr [] w3 (w3.alloc (.cells (ndCells x0 hd0) 46)) := (Fr.refl _ _).alloc _
      have hx3 : NdH (fun b => b ≤ w.heap.size ∨ b = g) nn0 w3 hd0 x0 := hx0.sub fun k hk hS => by
        show k < w1.heap.size
        have : k < w3.heap.size := hk
        rcases hS with hS | hS <;> omega
      have HG := Lib.hid hg
      clear hg
      go_wp2_with fail
      rw [← HG.out]
      go_loopg [7] n (fun gk v wr => ∃ (x : Nd) (hd : HdN) (nn : Nat) (b : Bool) (k : Nat), gk ≤ n ∧ v = .bool b ∧ Blk wr g 46 (ndCells x hd) ∧ Blk wr w.heap.size 46 zeroN ∧ NdH (fun b => b ≤ w.heap.size ∨ b = g) nn wr hd x ∧ X.At wr k ∧ Hid (P X.ws gk (.binL lv x b) k = some r) ∧ Fr [X.pb] w wr)
      case atStart => exact ⟨x0, hd0, nn0, b, k, Nat.le_refl _, rfl, hN3, hD3.fr hW3 (by simp), hx3.fr0 hW3, a3.fr0 hW3, HR, hF3.alloc _⟩
      case round =>
        obtain ⟨x, hd, nn, b, k, hgk, rfl, hG, hD, hx, hk, HP, hf⟩ := hrel
        cases gk with
        | zero => exact absurd HP.out (by simp [P])
        | succ m =>
          have hp := HP.out
          rw [P] at hp
          have HO := Lib.hid (operator_any lv hlv _ hk)
          clear HP
          cases ho : opW X.ws k lv with
          | none =>
            rw [ho] at hp HO
            simp only at hp
            injection hp with hp
            subst hp
            clear ho
            go_wp2_with fail
            refine HO.out.mono ?_
            rintro en w4 ⟨rfl, hf4, a4⟩
            have hG4 := fr_pb hG hf4 (by omega)
            have hD4 := fr_pb hD hf4 (by omega)
            have hx4 := hx.fr hf4 (fun k hk => by simp at hk; subst hk; exact .inl (by omega))
            have c0 := hD4.cell 0 rfl
            have c1 := hD4.cell 1 rfl
            have c2 := hD4.cell 2 rfl
            have c3 := hD4.cell 3 rfl
            have c4 := hD4.cell 4 rfl
            have c5 := hD4.cell 5 rfl
            have c6 := hD4.cell 6 rfl
            have cz0 := hD4.frozen 0
            have cz1 := hD4.frozen 1
            have cz2 := hD4.frozen 2
            have cz3 := hD4.frozen 3
            have cz4 := hD4.frozen 4
            have cz5 := hD4.frozen 5
            have cz6 := hD4.frozen 6
            have d0 := hG4.cell 0 rfl
            have d1 := hG4.cell 1 rfl
            have d2 := hG4.cell 2 rfl
            have d3 := hG4.cell 3 rfl
            have d4 := hG4.cell 4 rfl
            have d5 := hG4.cell 5 rfl
            have d6 := hG4.cell 6 rfl
            have dz0 := hG4.frozen 0
            have dz1 := hG4.frozen 1
            have dz2 := hG4.frozen 2
            have dz3 := hG4.frozen 3
            have dz4 := hG4.frozen 4
            have dz5 := hG4.frozen 5
            have dz6 := hG4.frozen 6
            go_wp2_with fail
            refine bodyPost_ret (results_node2 rfl _ _ w.heap.size rfl (hD4.node _ _ _ _ _ _ _)) rfl ?_
            have hS := fr_node1 w4 w.heap.size (.int .u8 x.kind) (.string x.text) (.int .i64 x.num) (.slice hd.As x.subs.length hd.cs) (.slice hd.Ap x.params.length hd.cp) (.slice hd.Ab x.body.length hd.cb) (.slice hd.Ae x.els.length hd.ce)
            exact ⟨hd, nn, rfl, (hx4.fr hS (fun k hk => by simp at hk; subst hk; exact .inl (Nat.le_refl _))).sub (fun k _ hk => .inl (Nat.le_of_lt hk)), fr_node (hf.trans hf4) (.inr (Nat.le_refl _)) _ _ _ _ _ _ _, At.new h a4 hS (by simp)⟩
          | some t =>
            rw [ho] at hp HO
            simp only at hp
            clear ho
            cases hq : P X.ws m (.bin (lv + 1)) (k + 1) with
            | none => rw [hq] at hp; cases hp
            | some q =>
              rw [hq] at hp
              have HE := Lib.hid (HH.out m q (k + 1) (by omega) hq)
              clear hq
              cases q with
              | bad k2 =>
                have hp : some (Out.bad k2) = some r := hp
                injection hp with hp
                subst hp
                have HE : Hid (∀ w', X.At w' (k + 1) → Calls Tryz.prog 244 #[X.p, .int .i64 ((lv : Int) + 1)] w' (X.Bad w' k2)) := HE
                go_wp2_with fail
                refine HO.out.mono ?_
                rintro en w4 ⟨rfl, hf4, a4⟩
                go_wp2_with fail
                refine (HE.out _ a4).mono ?_
                rintro en w5 ⟨rfl, hf5⟩
                go_wp2_with fail
                exact ⟨rfl, rfl, (hf.trans hf4).trans hf5⟩
              | ok l2 b2 k2 =>
                have hp : (if lv = 2 then some (Out.ok [ndk 4 t [x, hd1 l2]] false k2) else P X.ws m (.binL lv (ndk 4 t [x, hd1 l2]) false) k2) = some r := hp
                have HE : Hid (∀ w', X.At w' (k + 1) → Calls Tryz.prog 244 #[X.p, .int .i64 ((lv : Int) + 1)] w' (X.Nd2 w' (hd1 l2) b2 k2)) := HE
                generalize hd1 l2 = y at *
                by_cases hl2 : lv = 2
                · rw [if_pos hl2] at hp
                  injection hp with hp
                  subst hp
                  have hq2 : ((lv : Int) == 2) = true := by simp; omega
                  clear hl2
                  go_wp2_with fail
                  refine HO.out.mono ?_
                  rintro en w4 ⟨rfl, hf4, a4⟩
                  go_wp2_with fail
                  refine (HE.out _ a4).mono ?_
                  rintro en w5 ⟨hdy, ny, rfl, hy, hf5, a5⟩
                  have hz4 := hf4.size
                  have hz5 := hf5.size
                  have hgl := hG.lt
                  have hG5 := fr_pb (fr_pb hG hf4 (by omega)) hf5 (by omega)
                  have hD5 := fr_pb (fr_pb hD hf4 (by omega)) hf5 (by omega)
                  have hx5 := (hx.fr hf4 (fun k hk => by simp at hk; subst hk; exact .inl (by omega))).fr hf5 (fun k hk => by simp at hk; subst hk; exact .inl (by omega))
                  have hf6 : Fr [] w5 (w5.alloc (.cells (ndCells y hdy) 46)) := (Fr.refl _ _).alloc _
                  have hf7 : Fr [] (w5.alloc (.cells (ndCells y hdy) 46)) ((w5.alloc (.cells (ndCells y hdy) 46)).alloc (.cells (nd2 x hd y hdy) 46)) := (Fr.refl _ _).alloc _
                  have hG6 := hG5.fr hf6 (by simp)
                  have hY6 : Blk (w5.alloc (.cells (ndCells y hdy) 46)) w5.heap.size 46 (ndCells y hdy) := Blk.new _ _ _ _ rfl
                  have hG7 := hG6.fr hf7 (by simp)
                  have hD7 := (hD5.fr hf6 (by simp)).fr hf7 (by simp)
                  have c0 := hG6.cell 0 rfl
                  have c1 := hG6.cell 1 rfl
                  have c2 := hG6.cell 2 rfl
                  have c3 := hG6.cell 3 rfl
                  have c4 := hG6.cell 4 rfl
                  have c5 := hG6.cell 5 rfl
                  have c6 := hG6.cell 6 rfl
                  have cz0 := hG6.frozen 0
                  have cz1 := hG6.frozen 1
                  have cz2 := hG6.frozen 2
                  have cz3 := hG6.frozen 3
                  have cz4 := hG6.frozen 4
                  have cz5 := hG6.frozen 5
                  have cz6 := hG6.frozen 6
                  have d0 := hY6.cell 0 rfl
                  have d1 := hY6.cell 1 rfl
                  have d2 := hY6.cell 2 rfl
                  have d3 := hY6.cell 3 rfl
                  have d4 := hY6.cell 4 rfl
                  have d5 := hY6.cell 5 rfl
                  have d6 := hY6.cell 6 rfl
                  have dz0 := hY6.frozen 0
                  have dz1 := hY6.frozen 1
                  have dz2 := hY6.frozen 2
                  have dz3 := hY6.frozen 3
                  have dz4 := hY6.frozen 4
                  have dz5 := hY6.frozen 5
                  have dz6 := hY6.frozen 6
                  have q0 := hG7.cell 0 rfl
                  have q1 := hG7.cell 1 rfl
                  have q2 := hG7.cell 2 rfl
                  have q3 := hG7.cell 3 rfl
                  have q4 := hG7.cell 4 rfl
                  have q5 := hG7.cell 5 rfl
                  have q6 := hG7.cell 6 rfl
                  have qz0 := hG7.frozen 0
                  have qz1 := hG7.frozen 1
                  have qz2 := hG7.frozen 2
                  have qz3 := hG7.frozen 3
                  have qz4 := hG7.frozen 4
                  have qz5 := hG7.frozen 5
                  have qz6 := hG7.frozen 6
                  clear HH HG hx hG hD
                  go_upto_region 9 with fail
                  have hR7 : Blk ((w5.alloc (.cells (ndCells y hdy) 46)).alloc (.cells (nd2 x hd y hdy) 46)) (w5.heap.size + 1) 46 (nd2 x hd y hdy) := Blk.new _ _ _ _ (by simp)
                  have hx7 := (hx5.fr0 hf6).fr0 hf7
                  have hy7 := (hy.fr0 hf6).fr0 hf7
                  have a7 := (a5.fr0 hf6).fr0 hf7
                  have hF7 := (((hf.trans hf4).trans hf5).trans (hf6.mono (by simp))).trans (hf7.mono (by simp))
                  have hE6 := hG7.node (.int .u8 4) (.string t) (.int .i64 0) (.slice (some ⟨w5.heap.size + 1, 0, none⟩) 2 2) (.slice none 0 0) (.slice none 0 0) (.slice none 0 0)
                  have hS6 := fr_node1 ((w5.alloc (.cells (ndCells y hdy) 46)).alloc (.cells (nd2 x hd y hdy) 46)) g (.int .u8 4) (.string t) (.int .i64 0) (.slice (some ⟨w5.heap.size + 1, 0, none⟩) 2 2) (.slice none 0 0) (.slice none 0 0) (.slice none 0 0)
                  have hE0 := hD7.fr hS6 (by simp; omega)
                  have hR8 := hR7.fr hS6 (by simp; omega)
                  have hx8 := hx7.fr hS6 (fun k hk => by simp at hk; subst hk; exact .inr rfl)
                  have hy8' : NdH (fun b => b ≤ w.heap.size ∨ b = g) ny _ hdy y := (hy7.sub fun k hk hS => by
                    show k < w4.heap.size
                    rcases hS with hS | hS <;> omega).fr hS6 (fun k hk => by simp at hk; subst hk; exact .inr rfl)
                  have hF8 := fr_node (g := g) hF7 (.inr (by omega)) (.int .u8 4) (.string t) (.int .i64 0) (.slice (some ⟨w5.heap.size + 1, 0, none⟩) 2 2) (.slice none 0 0) (.slice none 0 0) (.slice none 0 0)
                  have a8 := At.new hAt a7 hS6 (fun z hz => by simp at hz; subst hz; omega)
                  have hy8 := NdH.sub_ (k := 4) (t := t) (by omega) (LN.two (nd2_eq x hd y hdy ▸ hR8) (by omega) (hx8.mono (Nat.le_max_left nn ny)) (hy8'.mono (Nat.le_max_right nn ny)))
                  have e0 := hE0.cell 0 rfl
                  have e1 := hE0.cell 1 rfl
                  have e2 := hE0.cell 2 rfl
                  have e3 := hE0.cell 3 rfl
                  have e4 := hE0.cell 4 rfl
                  have e5 := hE0.cell 5 rfl
                  have e6 := hE0.cell 6 rfl
                  have ez0 := hE0.frozen 0
                  have ez1 := hE0.frozen 1
                  have ez2 := hE0.frozen 2
                  have ez3 := hE0.frozen 3
                  have ez4 := hE0.frozen 4
                  have ez5 := hE0.frozen 5
                  have ez6 := hE0.frozen 6
                  have f0 := hE6.cell 0 rfl
                  have f1 := hE6.cell 1 rfl
                  have f2 := hE6.cell 2 rfl
                  have f3 := hE6.cell 3 rfl
                  have f4 := hE6.cell 4 rfl
                  have f5 := hE6.cell 5 rfl
                  have f6 := hE6.cell 6 rfl
                  have fz0 := hE6.frozen 0
                  have fz1 := hE6.frozen 1
                  have fz2 := hE6.frozen 2
                  have fz3 := hE6.frozen 3
                  have fz4 := hE6.frozen 4
                  have fz5 := hE6.frozen 5
                  have fz6 := hE6.frozen 6
                  go_wp2_with fail
                  refine bodyPost_ret (results_node2 (x := ndk 4 t [x, y]) (hd := ⟨some ⟨w5.heap.size + 1, 0, none⟩, 2, none, 0, none, 0, none, 0⟩) rfl _ _ w.heap.size rfl (hE0.node _ _ _ _ _ _ _)) rfl ?_
                  have hS0 := hE0.fr1 (.int .u8 4) (.string t) (.int .i64 0) (.slice (some ⟨w5.heap.size + 1, 0, none⟩) 2 2) (.slice none 0 0) (.slice none 0 0) (.slice none 0 0)
                  exact ⟨⟨some ⟨w5.heap.size + 1, 0, none⟩, 2, none, 0, none, 0, none, 0⟩, _, rfl, (hy8.fr hS0 (fun k hk => by simp at hk; subst hk; exact .inl (Nat.le_refl _))).sub (fun k _ hk => .inl (Nat.le_of_lt hk)), fr_node hF8 (.inr (Nat.le_refl _)) _ _ _ _ _ _ _, At.new hAt a8 hS0 (by simp)⟩
                · rw [if_neg hl2] at hp
                  have HP2 := Lib.hid hp
                  have hq2 : ((lv : Int) == 2) = false := by simp; omega
                  clear hl2 hp
                  go_wp2_with fail
                  refine HO.out.mono ?_
                  rintro en w4 ⟨rfl, hf4, a4⟩
                  go_wp2_with fail
                  refine (HE.out _ a4).mono ?_
                  rintro en w5 ⟨hdy, ny, rfl, hy, hf5, a5⟩
                  have hz4 := hf4.size
                  have hz5 := hf5.size
                  have hgl := hG.lt
                  have hG5 := fr_pb (fr_pb hG hf4 (by omega)) hf5 (by omega)
                  have hD5 := fr_pb (fr_pb hD hf4 (by omega)) hf5 (by omega)
                  have hx5 := (hx.fr hf4 (fun k hk => by simp at hk; subst hk; exact .inl (by omega))).fr hf5 (fun k hk => by simp at hk; subst hk; exact .inl (by omega))
                  have hf6 : Fr [] w5 (w5.alloc (.cells (ndCells y hdy) 46)) := (Fr.refl _ _).alloc _
                  have hf7 : Fr [] (w5.alloc (.cells (ndCells y hdy) 46)) ((w5.alloc (.cells (ndCells y hdy) 46)).alloc (.cells (nd2 x hd y hdy) 46)) := (Fr.refl _ _).alloc _
                  have hG6 := hG5.fr hf6 (by simp)
                  have hY6 : Blk (w5.alloc (.cells (ndCells y hdy) 46)) w5.heap.size 46 (ndCells y hdy) := Blk.new _ _ _ _ rfl
                  have hG7 := hG6.fr hf7 (by simp)
                  have hD7 := (hD5.fr hf6 (by simp)).fr hf7 (by simp)
                  have c0 := hG6.cell 0 rfl
                  have c1 := hG6.cell 1 rfl
                  have c2 := hG6.cell 2 rfl
                  have c3 := hG6.cell 3 rfl
                  have c4 := hG6.cell 4 rfl
                  have c5 := hG6.cell 5 rfl
                  have c6 := hG6.cell 6 rfl
                  have cz0 := hG6.frozen 0
                  have cz1 := hG6.frozen 1
                  have cz2 := hG6.frozen 2
                  have cz3 := hG6.frozen 3
                  have cz4 := hG6.frozen 4
                  have cz5 := hG6.frozen 5
                  have cz6 := hG6.frozen 6
                  have d0 := hY6.cell 0 rfl
                  have d1 := hY6.cell 1 rfl
                  have d2 := hY6.cell 2 rfl
                  have d3 := hY6.cell 3 rfl
                  have d4 := hY6.cell 4 rfl
                  have d5 := hY6.cell 5 rfl
                  have d6 := hY6.cell 6 rfl
                  have dz0 := hY6.frozen 0
                  have dz1 := hY6.frozen 1
                  have dz2 := hY6.frozen 2
                  have dz3 := hY6.frozen 3
                  have dz4 := hY6.frozen 4
                  have dz5 := hY6.frozen 5
                  have dz6 := hY6.frozen 6
                  have q0 := hG7.cell 0 rfl
                  have q1 := hG7.cell 1 rfl
                  have q2 := hG7.cell 2 rfl
                  have q3 := hG7.cell 3 rfl
                  have q4 := hG7.cell 4 rfl
                  have q5 := hG7.cell 5 rfl
                  have q6 := hG7.cell 6 rfl
                  have qz0 := hG7.frozen 0
                  have qz1 := hG7.frozen 1
                  have qz2 := hG7.frozen 2
                  have qz3 := hG7.frozen 3
                  have qz4 := hG7.frozen 4
                  have qz5 := hG7.frozen 5
                  have qz6 := hG7.frozen 6
                  clear HH HG hx hG hD
                  go_upto_region 9 with fail
                  have hR7 : Blk ((w5.alloc (.cells (ndCells y hdy) 46)).alloc (.cells (nd2 x hd y hdy) 46)) (w5.heap.size + 1) 46 (nd2 x hd y hdy) := Blk.new _ _ _ _ (by simp)
                  have hx7 := (hx5.fr0 hf6).fr0 hf7
                  have hy7 := (hy.fr0 hf6).fr0 hf7
                  have a7 := (a5.fr0 hf6).fr0 hf7
                  have hF7 := (((hf.trans hf4).trans hf5).trans (hf6.mono (by simp))).trans (hf7.mono (by simp))
                  have hE6 := hG7.node (.int .u8 4) (.string t) (.int .i64 0) (.slice (some ⟨w5.heap.size + 1, 0, none⟩) 2 2) (.slice none 0 0) (.slice none 0 0) (.slice none 0 0)
                  have hS6 := fr_node1 ((w5.alloc (.cells (ndCells y hdy) 46)).alloc (.cells (nd2 x hd y hdy) 46)) g (.int .u8 4) (.string t) (.int .i64 0) (.slice (some ⟨w5.heap.size + 1, 0, none⟩) 2 2) (.slice none 0 0) (.slice none 0 0) (.slice none 0 0)
                  have hE0 := hD7.fr hS6 (by simp; omega)
                  have hR8 := hR7.fr hS6 (by simp; omega)
                  have hx8 := hx7.fr hS6 (fun k hk => by simp at hk; subst hk; exact .inr rfl)
                  have hy8' : NdH (fun b => b ≤ w.heap.size ∨ b = g) ny _ hdy y := (hy7.sub fun k hk hS => by
                    show k < w4.heap.size
                    rcases hS with hS | hS <;> omega).fr hS6 (fun k hk => by simp at hk; subst hk; exact .inr rfl)
                  have hF8 := fr_node (g := g) hF7 (.inr (by omega)) (.int .u8 4) (.string t) (.int .i64 0) (.slice (some ⟨w5.heap.size + 1, 0, none⟩) 2 2) (.slice none 0 0) (.slice none 0 0) (.slice none 0 0)
                  have a8 := At.new hAt a7 hS6 (fun z hz => by simp at hz; subst hz; omega)
                  have hy8 := NdH.sub_ (k := 4) (t := t) (by omega) (LN.two (nd2_eq x hd y hdy ▸ hR8) (by omega) (hx8.mono (Nat.le_max_left nn ny)) (hy8'.mono (Nat.le_max_right nn ny)))
                  go_wp2_with fail
                  go_roundg m
                  case measure => omega
                  case rel => exact ⟨ndk 4 t [x, y], ⟨some ⟨w5.heap.size + 1, 0, none⟩, 2, none, 0, none, 0, none, 0⟩, _, false, k2, by omega, rfl, hE6, hE0, hy8, a8, HP2, hF8⟩
end
end

/- A list of nodes as a row of cells (what append wants of its source). -/
section
open Go.RowKit
set_option linter.unusedSimpArgs false
theorem NdAt.cell_at {w : World} {b o : Nat} {x : Nd} {h : HdN} (ha : NdAt w b o x h) : ∀ (r : Nat) (u : Value), (ndL x h)[r]? = some u → w.cell? ⟨b, o + r, none⟩ = some u
 | 0, u, e => by have := ha.c0; simp at e; subst e; exact this
 | 1, u, e => by have := ha.c1; simp at e; subst e; exact this
 | 2, u, e => by have := ha.c2; simp at e; subst e; exact this
 | 3, u, e => by have := ha.c3; simp at e; subst e; exact this
 | 4, u, e => by have := ha.c4; simp at e; subst e; exact this
 | 5, u, e => by have := ha.c5; simp at e; subst e; exact this
 | 6, u, e => by have := ha.c6; simp at e; subst e; exact this
 | r + 7, u, e => by simp at e
theorem LN.heads {S : Nat → Prop} {n : Nat} {w : World} {A : Option Addr} {c : Nat} {l : List Nd} (hl : LN S (n + 1) w A c l) :
  ∃ hs : List HdN, hs.length = l.length ∧ Cells w A (flatN l hs) ∧ ∀ (k : Nat) (x : Nd) (h : HdN), l[k]? = some x → hs[k]? = some h → NdH S n w h x := by
 rcases Nat.eq_zero_or_pos l.length with h0 | h0
 ·obtain rfl := List.eq_nil_of_length_eq_zero h0
  exact ⟨[], rfl, fun h => by simp [flatN] at h, fun k x h e => by simp at e⟩
 obtain ⟨b, off, rfl, hb, hx⟩ := hl.2.2 h0
 have hx' : ∀ k : Fin l.length, ∃ h : HdN, NdAt w b (off + k.1 * 7) l[k.1] h ∧ NdH S n w h l[k.1] := fun k => by
  obtain ⟨h, h1, h2, h3, h4, h5, h6⟩ := hx k.1 l[k.1] (List.getElem?_eq_getElem k.2)
  exact ⟨h, h1, ⟨h2, h3, h4, h5, h6⟩⟩
 obtain ⟨hs, hlen, hat⟩ : ∃ hs : List HdN, hs.length = l.length ∧ ∀ (k : Nat) (h : HdN) (hk : k < l.length), hs[k]? = some h → NdAt w b (off + k * 7) l[k] h ∧ NdH S n w h l[k] := by
  refine ⟨List.ofFn fun k => Classical.choose (hx' k), by simp, fun k h hk e => ?_⟩
  rw [List.getElem?_ofFn, dif_pos hk] at e
  injection e with e
  subst e
  exact Classical.choose_spec (hx' ⟨k, hk⟩)
 refine ⟨hs, hlen, fun _ => ⟨b, off, rfl, fun j u hu => ?_⟩, fun k x h e1 e2 => ?_⟩
 ·have hj : j < (flatN l hs).length := (List.getElem?_eq_some_iff.1 hu).1
  rw [flatN_len l hs hlen] at hj
  have hk : j / 7 < l.length := by omega
  have e := flatN_at l hs (j / 7) (j % 7) l[j / 7] (hs[j / 7]'(by omega)) (List.getElem?_eq_getElem hk) (List.getElem?_eq_getElem _) (by omega)
  have hj7 : j / 7 * 7 + j % 7 = j := by omega
  rw [hj7, hu] at e
  have := (hat (j / 7) _ hk (List.getElem?_eq_getElem (by omega))).1.cell_at (j % 7) u e.symm
  rw [show off + j / 7 * 7 + j % 7 = off + j by omega] at this
  exact this
 ·have hk : k < l.length := (List.getElem?_eq_some_iff.1 e1).1
  have := (hat k h hk e2).2
  rw [(List.getElem?_eq_some_iff.1 e1).2] at this
  exact this
end

/- postfix of the parser (printed by gen/postfix.py). -/
section
open Go.RowKit
set_option linter.unusedSimpArgs false
section
variable {X : Px} {i j : Nat}
theorem GNd.appL {S : Nat → Prop} {n base : Nat} {w w' : World} {A : Option Addr} {c : Nat} {acc l : List Nd} {hs gs : List HdN} (g : GNd S n base w A c acc hs) (hlen : gs.length = l.length)
    (hx : ∀ (k : Nat) (y : Nd) (h : HdN), l[k]? = some y → gs[k]? = some h → NdH (fun b => S b ∨ RowB A b) n w h y) {A' : Option Addr} {c' : Nat} (hg : w.grownBy w' (Value.slice A acc.length c).ownBlock)
    (ho : w'.ownsRow base 46 7 (.slice A' (acc.length + l.length) c') (acc.length + l.length) (flatN acc hs ++ flatN l gs))
    (hat : (Value.slice A' (acc.length + l.length) c').ownBlock = (Value.slice A acc.length c).ownBlock ∨ (Value.slice A' (acc.length + l.length) c').ownBlock = some w.heap.size) : GNd S n base w' A' c' (acc ++ l) (hs ++ gs) := by
  have hR : ∀ k, k < w.heap.size → ¬ RowB A k → ¬ RowB A' k := by
    intro k hk h1 ⟨a, ha, hab⟩
    subst ha hab
    rcases hat with h2 | h2
    · cases A with
      | none => simp [Value.ownBlock] at h2
      | some a' =>
        simp [Value.ownBlock] at h2
        exact h1 ⟨a', rfl, h2.symm⟩
    · simp [Value.ownBlock] at h2
      omega
  have hcell : ∀ (p : Addr) (u : Value), ¬ RowB A p.block → w.cell? p = some u → w'.cell? p = some u := by
    intro p u hp hc
    refine (World.cell?_of_block (hg.block p.block (World.block_lt_of_cell? w p hc) fun e => ?_)).trans hc
    cases A with
    | none => simp [Value.ownBlock] at e
    | some a' => simp [Value.ownBlock] at e; exact hp ⟨a', rfl, e.symm⟩
  have hk : ∀ y hd, NdH (fun b => S b ∨ RowB A b) n w hd y → NdH (fun b => S b ∨ RowB A' b) n w' hd y := fun y hd hy =>
    hy.imp (Nat.le_refl _) (fun k hk h1 h2 => h2.elim (fun h3 => h1 (.inl h3)) (fun h3 => hR k hk (fun h4 => h1 (.inr h4)) h3)) (fun p u hp hc => hcell p u (fun h3 => hp (.inr h3)) hc)
  refine ⟨by simp [g.len, hlen], ?_, fun k y hd e1 e2 => ?_⟩
  · have : flatN (acc ++ l) (hs ++ gs) = flatN acc hs ++ flatN l gs := by
      unfold flatN
      rw [List.zip_append g.len.symm, List.flatMap_append]
    rw [this, List.length_append]
    exact ho
  · rcases Nat.lt_or_ge k acc.length with h1 | h1
    · rw [List.getElem?_append_left h1] at e1
      rw [List.getElem?_append_left (by rw [g.len]; exact h1)] at e2
      exact hk _ _ (g.at_ k y hd e1 e2)
    · rw [List.getElem?_append_right h1] at e1
      rw [List.getElem?_append_right (by rw [g.len]; exact h1), g.len] at e2
      exact hk _ _ (hx _ y hd e1 e2)
theorem flatN_one (l : List Nd) (hs : List HdN) : ∀ u ∈ flatN l hs, u.oneCell' = true := by
 intro u hu
 unfold flatN at hu
 obtain ⟨p, hp, hu⟩ := List.mem_flatMap.1 hu
 exact ndL_one _ _ u hu
theorem argsL_len {ws : List Wd} : ∀ (n : Nat) (acc : List Nd) (i : Nat) (l : List Nd) (b : Bool) (j : Nat), acc.length ≤ i → i ≤ ws.length → P ws n (.argsL acc) i = some (.ok l b j) → l.length ≤ ws.length
  | 0, acc, i, l, b, j, _, _, h => by simp [P] at h
  | n + 1, acc, i, l, b, j, ha, hi, h => by
    rw [P] at h
    cases h1 : isW ws i (bt [44]) with
    | true =>
      have hlt := isW_lt h1
      rw [h1, if_pos rfl] at h
      obtain ⟨l', b', k, h2, h3⟩ := andW_ok h
      have hadv := P_adv (job := .expr) trivial (by omega) h2
      simp only [adv] at hadv
      exact argsL_len n _ _ _ _ _ (by simp; omega) (by omega) h3
    | false =>
      rw [h1, if_neg (by simp)] at h
      cases h2 : isW ws i (bt [41]) with
      | true =>
        rw [h2, if_pos rfl] at h
        injection h with h
        injection h with h h' h''
        subst h
        omega
      | false =>
        rw [h2, if_neg (by simp)] at h
        injection h with h
        cases h
theorem args_len {ws : List Wd} {n i j : Nat} {l : List Nd} {b : Bool} (hi : i ≤ ws.length) (h : P ws n .args i = some (.ok l b j)) : l.length ≤ ws.length := by
  cases n with
  | zero => simp [P] at h
  | succ n =>
    rw [P] at h
    cases h1 : isW ws i (bt [41]) with
    | true =>
      rw [h1, if_pos rfl] at h
      injection h with h
      injection h with h h' h''
      subst h
      exact Nat.zero_le _
    | false =>
      rw [h1, if_neg (by simp)] at h
      obtain ⟨l', b', k, h2, h3⟩ := andW_ok h
      have hadv := P_adv (job := .expr) trivial hi h2
      simp only [adv] at hadv
      exact argsL_len n _ _ _ _ _ (by simp; omega) (by omega) h3
set_option maxRecDepth 20000 in
set_option maxHeartbeats 6400000 in
theorem postfix_step {n : Nat} {r : Out} (w : World) (h : X.At w i) (hr : P X.ws (n + 1) .pfx i = some r)
    (ha : ∀ q, P X.ws n .atom i = some q → ∀ w', X.At w' i → Calls Tryz.prog 258 #[X.p] w' (X.R1 w' q))
    (he : ∀ m q k, m ≤ n → P X.ws m .expr k = some q → ∀ w', X.At w' k → Calls Tryz.prog 228 #[X.p] w' (X.R1 w' q))
    (hg : ∀ m q k, m ≤ n → P X.ws m .args k = some q → ∀ w', X.At w' k → Calls Tryz.prog 259 #[X.p] w' (X.RL w' q)) :
    Calls Tryz.prog 257 #[X.p] w (X.R2 w r) := by
  rw [P] at hr
  obtain ⟨V, hV⟩ : ∃ V, V = w.alloc (.cells zeroN 46) := ⟨_, rfl⟩
  have hf0 : Fr [] w V := by rw [hV]; exact frx
  have hB1 : Blk V w.heap.size 46 zeroN := by rw [hV]; exact Blk.new _ _ _ _ rfl
  have hpl := X.lt h
  have hz := hf0.size
  have hVz : w.heap.size < V.heap.size := hB1.lt
  have hV0 := h.fr0 hf0
  have hAt := h
  have HV := Lib.hid hV.symm
  have HX := Lib.hid he
  have HA := Lib.hid hg
  clear hV he hg
  cases hq : P X.ws n .atom i with
  | none => rw [hq] at hr; cases hr
  | some q =>
    rw [hq] at hr
    have HE := Lib.hid (ha q hq)
    clear hq ha
    cases q with
    | bad k =>
      have hr : some (Out.bad k) = some r := hr
      injection hr with hr
      subst hr
      have HE : Hid (∀ w', X.At w' i → Calls Tryz.prog 258 #[X.p] w' (X.Bad w' k)) := HE
      show Calls _ _ _ _ (X.Bad w k)
      go_enter Tryz.func257, Tryz.ntmps257
      go_wp2_with fail
      rw [HV.out]
      refine (HE.out _ hV0).mono ?_
      rintro en w2 ⟨rfl, hf2⟩
      go_wp2_with fail
      exact ⟨rfl, rfl, (hf0.mono (by simp)).trans hf2⟩
    | ok l b k =>
      have HR : Hid (P X.ws n (.postL (hd1 l) false) k = some r) := hr
      have HE : Hid (∀ w', X.At w' i → Calls Tryz.prog 258 #[X.p] w' (X.Nd1 w' (hd1 l) k)) := HE
      clear hr
      generalize hd1 l = x0 at *
      go_enter Tryz.func257, Tryz.ntmps257
      go_wp2_with fail
      rw [HV.out]
      refine (HE.out _ hV0).mono ?_
      rintro en w3 ⟨hd0, nn0, rfl, hx0, hf3, a3⟩
      have hz3 := hf3.size
      have hF3 : Fr [X.pb] w w3 := (hf0.mono (by simp)).trans hf3
      have hD3 : Blk w3 w.heap.size 46 zeroN := hB1.fr hf3 (by simp; omega)
      obtain ⟨g, hg⟩ : ∃ g, g = w3.heap.size := ⟨_, rfl⟩
      have hgw : w.heap.size < g := by omega
      have hN3 : Blk (w3.alloc (.cells (ndCells x0 hd0) 46)) g 46 (ndCells x0 hd0) := Blk.new _ _ _ _ hg
      have hW3 : Fr [] w3 (w3.alloc (.cells (ndCells x0 hd0) 46)) := (Fr.refl _ _).alloc _
      have hx3 : NdH (fun b => b ≤ w.heap.size ∨ b = g) nn0 w3 hd0 x0 := hx0.sub fun k hk hS => by
        show k < V.heap.size
        have : k < w3.heap.size := hk
        rcases hS with hS | hS <;> omega
      have HG := Lib.hid hg
      clear hg
      go_wp2_with fail
      rw [← HG.out]
      go_loopg [5] n (fun gk v wr => ∃ (x : Nd) (hd : HdN) (nn : Nat) (b : Bool) (k : Nat), gk ≤ n ∧ v = .bool b ∧ Blk wr g 46 (ndCells x hd) ∧ Blk wr w.heap.size 46 zeroN ∧ NdH (fun b => b ≤ w.heap.size ∨ b = g) nn wr hd x ∧ X.At wr k ∧ Hid (P X.ws gk (.postL x b) k = some r) ∧ Fr [X.pb] w wr)
      case atStart => exact ⟨x0, hd0, nn0, false, k, Nat.le_refl _, rfl, hN3, hD3.fr hW3 (by simp), hx3.fr0 hW3, a3.fr0 hW3, HR, hF3.alloc _⟩
      case round =>
        obtain ⟨x, hd, nn, b, k, hgk, rfl, hG, hD, hx, hk, HP, hf⟩ := hrel
        cases gk with
        | zero => exact absurd HP.out (by simp [P])
        | succ m =>
          have hp := HP.out
          rw [P] at hp
          clear HP
          cases h1 : isW X.ws k (bt [91]) with
          | true =>
            rw [h1, if_pos rfl] at hp
            have H1 := Lib.hid h1
            clear h1
            cases hq : P X.ws m .expr (k + 1) with
            | none => rw [hq] at hp; cases hp
            | some q =>
              rw [hq] at hp
              have HE := Lib.hid (HX.out m q (k + 1) (by omega) hq)
              clear hq
              go_wp2_with fail
              refine (has_ok hk H1.out).mono ?_
              rintro en w4 ⟨rfl, hf4, a4⟩
              have hz4 := hf4.size
              have hG4 := fr_pb hG hf4 (by omega)
              have hD4 := fr_pb hD hf4 (by omega)
              have hx4 := hx.fr hf4 (fun k hk => by simp at hk; subst hk; exact .inl (by omega))
              have d0 := hG4.cell 0 rfl
              have d1 := hG4.cell 1 rfl
              have d2 := hG4.cell 2 rfl
              have d3 := hG4.cell 3 rfl
              have d4 := hG4.cell 4 rfl
              have d5 := hG4.cell 5 rfl
              have d6 := hG4.cell 6 rfl
              have dz0 := hG4.frozen 0
              have dz1 := hG4.frozen 1
              have dz2 := hG4.frozen 2
              have dz3 := hG4.frozen 3
              have dz4 := hG4.frozen 4
              have dz5 := hG4.frozen 5
              have dz6 := hG4.frozen 6
              go_wp2_with fail
              refine wp_region_held_drew (S := fun _ => True) (by kernel_rfl) (trivial) (fun hHeld => ?_)
              refine wpAnyH_take (i := 1) (v := X.p) rfl (by kernel_rfl) (by kernel_rfl) (by kernel_rfl) (fun _ _ _ h => h) (Or.inl ⟨by rfl, fun w hSw => ?_⟩) (by assumption) ?_
              · (try dsimp only at hSw); go_simp
              try simp only [Act.put, List.setIfInBounds_toArray, List.set_cons_zero, List.set_cons_succ]
              refine wpAnyH_ready (rs := [0, 2]) (by kernel_rfl) (by simp) ?_
              refine AllReadyH.cons rfl (fun K hK => ?_) (AllReadyH.cons rfl (fun K hK => ?_) AllReadyH.nil)
              · skip
                go_simp
                refine hK.out _ _ (trivial) (fun hHeld2 => ?_)
                clear hK K hHeld
                have hHeld := hHeld2
                clear hHeld2
                try simp only [Act.put, List.setIfInBounds_toArray, List.set_cons_zero, List.set_cons_succ]
                refine wpAnyH_ready (rs := [2]) (by kernel_rfl) (by simp) ?_
                refine AllReadyH.cons rfl (fun K hK => ?_) AllReadyH.nil
                go_simp
                refine (HE.out _ (a4.fr0 frx)).mono ?_
                intro en w5 hp5
                cases q with
                | bad k2 =>
                  obtain ⟨rfl, hf5⟩ := hp5
                  have hp : some (Out.bad k2) = some r := hp
                  injection hp with hp
                  subst hp
                  exact ⟨rfl, rfl, (hf.trans hf4).trans (Fr.trans frx hf5)⟩
                | ok l2 b2 k2 =>
                  obtain ⟨hdy, ny, rfl, hy, hf5, a5⟩ := hp5
                  have hp : (if isW X.ws k2 (bt [93]) then P X.ws m (.postL (ndk 8 (bt []) [x, hd1 l2]) true) (k2 + 1) else some (.bad k2)) = some r := hp
                  generalize hd1 l2 = y at *
                  have hf45 : Fr [X.pb] w4 w5 := Fr.trans frx hf5
                  have hy : NdH (Bel w4) ny w5 hdy y := hy
                  clear hf5
                  have hz5 := hf45.size
                  have hgl := hG.lt
                  have hG5 := fr_pb hG4 hf45 (by omega)
                  have hD5 := fr_pb hD4 hf45 (by omega)
                  have hx5 := hx4.fr hf45 (fun k hk => by simp at hk; subst hk; exact .inl (by omega))
                  have hf7 : Fr [] w5 (w5.alloc (.cells (nd2 x hd y hdy) 46)) := (Fr.refl _ _).alloc _
                  have hG7 := hG5.fr hf7 (by simp)
                  have hD7 := hD5.fr hf7 (by simp)
                  refine hK.out _ _ (trivial) (fun hHeld2 => ?_)
                  clear hK K hHeld
                  have hHeld := hHeld2
                  clear hHeld2
                  try simp only [Act.put, List.setIfInBounds_toArray, List.set_cons_zero, List.set_cons_succ]
                  have q0 := hG7.cell 0 rfl
                  have q1 := hG7.cell 1 rfl
                  have q2 := hG7.cell 2 rfl
                  have q3 := hG7.cell 3 rfl
                  have q4 := hG7.cell 4 rfl
                  have q5 := hG7.cell 5 rfl
                  have q6 := hG7.cell 6 rfl
                  have qz0 := hG7.frozen 0
                  have qz1 := hG7.frozen 1
                  have qz2 := hG7.frozen 2
                  have qz3 := hG7.frozen 3
                  have qz4 := hG7.frozen 4
                  have qz5 := hG7.frozen 5
                  have qz6 := hG7.frozen 6
                  clear HX HA HG hx hG hD
                  refine wpAnyH_ready (rs := [3]) (by kernel_rfl) (by simp) ?_
                  refine AllReadyH.cons rfl (fun K hK => ?_) AllReadyH.nil
                  go_simp
                  refine hK.out _ _ (trivial) (fun hHeld2 => ?_)
                  clear hK K hHeld
                  have hHeld := hHeld2
                  clear hHeld2
                  try simp only [Act.put, List.setIfInBounds_toArray, List.set_cons_zero, List.set_cons_succ]
                  refine wpAnyH_ready (rs := [4]) (by kernel_rfl) (by simp) ?_
                  refine AllReadyH.cons rfl (fun K hK => ?_) AllReadyH.nil
                  go_simp
                  refine hK.out _ _ (trivial) (fun hHeld2 => ?_)
                  clear hK K hHeld
                  have hHeld := hHeld2
                  clear hHeld2
                  try simp only [Act.put, List.setIfInBounds_toArray, List.set_cons_zero, List.set_cons_succ]
                  refine wpAnyH_ready (rs := [5]) (by kernel_rfl) (by simp) ?_
                  refine AllReadyH.cons rfl (fun K hK => ?_) AllReadyH.nil
                  go_simp
                  refine hK.out _ _ (trivial) (fun hHeld2 => ?_)
                  clear hK K hHeld
                  have hHeld := hHeld2
                  clear hHeld2
                  try simp only [Act.put, List.setIfInBounds_toArray, List.set_cons_zero, List.set_cons_succ]
                  refine wpAnyH_ready (rs := [6]) (by kernel_rfl) (by simp) ?_
                  refine AllReadyH.cons rfl (fun K hK => ?_) AllReadyH.nil
                  go_simp
                  refine hK.out _ _ (trivial) (fun hHeld2 => ?_)
                  clear hK K hHeld
                  have hHeld := hHeld2
                  clear hHeld2
                  try simp only [Act.put, List.setIfInBounds_toArray, List.set_cons_zero, List.set_cons_succ]
                  refine wpAnyH_done (by kernel_rfl) ?_ _
                  have hR7 : Blk (w5.alloc (.cells (nd2 x hd y hdy) 46)) w5.heap.size 46 (nd2 x hd y hdy) := Blk.new _ _ _ _ rfl
                  have hx7 := hx5.fr0 hf7
                  have hy7 := hy.fr0 hf7
                  have a7 := a5.fr0 hf7
                  have hF7 := ((hf.trans hf4).trans hf45).trans (hf7.mono (by simp))
                  have hE6 := hG7.node (.int .u8 8) (.string (bt [])) (.int .i64 0) (.slice (some ⟨w5.heap.size, 0, none⟩) 2 2) (.slice none 0 0) (.slice none 0 0) (.slice none 0 0)
                  have hS6 := fr_node1 (w5.alloc (.cells (nd2 x hd y hdy) 46)) g (.int .u8 8) (.string (bt [])) (.int .i64 0) (.slice (some ⟨w5.heap.size, 0, none⟩) 2 2) (.slice none 0 0) (.slice none 0 0) (.slice none 0 0)
                  have hE0 := hD7.fr hS6 (by simp; omega)
                  have hR8 := hR7.fr hS6 (by simp; omega)
                  have hx8 := hx7.fr hS6 (fun k hk => by simp at hk; subst hk; exact .inr rfl)
                  have hy8' : NdH (fun b => b ≤ w.heap.size ∨ b = g) ny _ hdy y := (hy7.sub fun k hk hS => by
                    show k < w4.heap.size
                    rcases hS with hS | hS <;> omega).fr hS6 (fun k hk => by simp at hk; subst hk; exact .inr rfl)
                  have hF8 := fr_node (g := g) hF7 (.inr (by omega)) (.int .u8 8) (.string (bt [])) (.int .i64 0) (.slice (some ⟨w5.heap.size, 0, none⟩) 2 2) (.slice none 0 0) (.slice none 0 0) (.slice none 0 0)
                  have a8 := At.new hAt a7 hS6 (fun z hz => by simp at hz; subst hz; omega)
                  have hy8 := NdH.sub_ (k := 8) (t := bt []) (by omega) (LN.two (nd2_eq x hd y hdy ▸ hR8) (by omega) (hx8.mono (Nat.le_max_left nn ny)) (hy8'.mono (Nat.le_max_right nn ny)))
                  cases h2 : isW X.ws k2 (bt [93]) with
                  | false =>
                    rw [h2, if_neg (by simp)] at hp
                    injection hp with hp
                    subst hp
                    have H2 := Lib.hid h2
                    clear h2
                    go_wp2_with fail
                    refine (take_bad a8 H2.out).mono ?_
                    rintro en w9 ⟨rfl, hf9⟩
                    go_wp2_with fail
                    exact ⟨rfl, rfl, hF8.trans hf9⟩
                  | true =>
                    rw [h2, if_pos rfl] at hp
                    have H2 := Lib.hid h2
                    have HP2 := Lib.hid hp
                    clear h2 hp
                    go_wp2_with fail
                    refine (take_ok a8 H2.out).mono ?_
                    rintro en w9 ⟨rfl, hf9, a9⟩
                    have hE9 := fr_pb hE6 hf9 (by omega)
                    have hD9 := fr_pb hE0 hf9 (by omega)
                    have hy9 := hy8.fr hf9 (fun k hk => by simp at hk; subst hk; exact .inl (by omega))
                    go_wp2_with fail
                    go_roundg m
                    case measure => omega
                    case rel => exact ⟨ndk 8 (bt []) [x, y], ⟨some ⟨w5.heap.size, 0, none⟩, 2, none, 0, none, 0, none, 0⟩, _, true, k2 + 1, by omega, rfl, hE9, hD9, hy9, a9, HP2, hF8.trans hf9⟩
              · skip
                go_simp
                refine (HE.out _ (a4.fr0 frx)).mono ?_
                intro en w5 hp5
                cases q with
                | bad k2 =>
                  obtain ⟨rfl, hf5⟩ := hp5
                  have hp : some (Out.bad k2) = some r := hp
                  injection hp with hp
                  subst hp
                  exact ⟨rfl, rfl, (hf.trans hf4).trans (Fr.trans frx hf5)⟩
                | ok l2 b2 k2 =>
                  obtain ⟨hdy, ny, rfl, hy, hf5, a5⟩ := hp5
                  have hp : (if isW X.ws k2 (bt [93]) then P X.ws m (.postL (ndk 8 (bt []) [x, hd1 l2]) true) (k2 + 1) else some (.bad k2)) = some r := hp
                  generalize hd1 l2 = y at *
                  have hf45 : Fr [X.pb] w4 w5 := Fr.trans frx hf5
                  have hy : NdH (Bel w4) ny w5 hdy y := hy
                  clear hf5
                  have hz5 := hf45.size
                  have hgl := hG.lt
                  have hG5 := fr_pb hG4 hf45 (by omega)
                  have hD5 := fr_pb hD4 hf45 (by omega)
                  have hx5 := hx4.fr hf45 (fun k hk => by simp at hk; subst hk; exact .inl (by omega))
                  have hf7 : Fr [] w5 (w5.alloc (.cells (nd2 x hd y hdy) 46)) := (Fr.refl _ _).alloc _
                  have hG7 := hG5.fr hf7 (by simp)
                  have hD7 := hD5.fr hf7 (by simp)
                  refine hK.out _ _ (trivial) (fun hHeld2 => ?_)
                  clear hK K hHeld
                  have hHeld := hHeld2
                  clear hHeld2
                  try simp only [Act.put, List.setIfInBounds_toArray, List.set_cons_zero, List.set_cons_succ]
                  have e0 := hG5.cell 0 rfl
                  have e1 := hG5.cell 1 rfl
                  have e2 := hG5.cell 2 rfl
                  have e3 := hG5.cell 3 rfl
                  have e4 := hG5.cell 4 rfl
                  have e5 := hG5.cell 5 rfl
                  have e6 := hG5.cell 6 rfl
                  have ez0 := hG5.frozen 0
                  have ez1 := hG5.frozen 1
                  have ez2 := hG5.frozen 2
                  have ez3 := hG5.frozen 3
                  have ez4 := hG5.frozen 4
                  have ez5 := hG5.frozen 5
                  have ez6 := hG5.frozen 6
                  refine wpAnyH_ready (rs := [0]) (by kernel_rfl) (by simp) ?_
                  refine AllReadyH.cons rfl (fun K hK => ?_) AllReadyH.nil
                  go_simp
                  refine hK.out _ _ (trivial) (fun hHeld2 => ?_)
                  clear hK K hHeld
                  have hHeld := hHeld2
                  clear hHeld2
                  try simp only [Act.put, List.setIfInBounds_toArray, List.set_cons_zero, List.set_cons_succ]
                  have q0 := hG7.cell 0 rfl
                  have q1 := hG7.cell 1 rfl
                  have q2 := hG7.cell 2 rfl
                  have q3 := hG7.cell 3 rfl
                  have q4 := hG7.cell 4 rfl
                  have q5 := hG7.cell 5 rfl
                  have q6 := hG7.cell 6 rfl
                  have qz0 := hG7.frozen 0
                  have qz1 := hG7.frozen 1
                  have qz2 := hG7.frozen 2
                  have qz3 := hG7.frozen 3
                  have qz4 := hG7.frozen 4
                  have qz5 := hG7.frozen 5
                  have qz6 := hG7.frozen 6
                  clear HX HA HG hx hG hD
                  refine wpAnyH_ready (rs := [3]) (by kernel_rfl) (by simp) ?_
                  refine AllReadyH.cons rfl (fun K hK => ?_) AllReadyH.nil
                  go_simp
                  refine hK.out _ _ (trivial) (fun hHeld2 => ?_)
                  clear hK K hHeld
                  have hHeld := hHeld2
                  clear hHeld2
                  try simp only [Act.put, List.setIfInBounds_toArray, List.set_cons_zero, List.set_cons_succ]
                  refine wpAnyH_ready (rs := [4]) (by kernel_rfl) (by simp) ?_
                  refine AllReadyH.cons rfl (fun K hK => ?_) AllReadyH.nil
                  go_simp
                  refine hK.out _ _ (trivial) (fun hHeld2 => ?_)
                  clear hK K hHeld
                  have hHeld := hHeld2
                  clear hHeld2
                  try simp only [Act.put, List.setIfInBounds_toArray, List.set_cons_zero, List.set_cons_succ]
                  refine wpAnyH_ready (rs := [5]) (by kernel_rfl) (by simp) ?_
                  refine AllReadyH.cons rfl (fun K hK => ?_) AllReadyH.nil
                  go_simp
                  refine hK.out _ _ (trivial) (fun hHeld2 => ?_)
                  clear hK K hHeld
                  have hHeld := hHeld2
                  clear hHeld2
                  try simp only [Act.put, List.setIfInBounds_toArray, List.set_cons_zero, List.set_cons_succ]
                  refine wpAnyH_ready (rs := [6]) (by kernel_rfl) (by simp) ?_
                  refine AllReadyH.cons rfl (fun K hK => ?_) AllReadyH.nil
                  go_simp
                  refine hK.out _ _ (trivial) (fun hHeld2 => ?_)
                  clear hK K hHeld
                  have hHeld := hHeld2
                  clear hHeld2
                  try simp only [Act.put, List.setIfInBounds_toArray, List.set_cons_zero, List.set_cons_succ]
                  refine wpAnyH_done (by kernel_rfl) ?_ _
                  have hR7 : Blk (w5.alloc (.cells (nd2 x hd y hdy) 46)) w5.heap.size 46 (nd2 x hd y hdy) := Blk.new _ _ _ _ rfl
                  have hx7 := hx5.fr0 hf7
                  have hy7 := hy.fr0 hf7
                  have a7 := a5.fr0 hf7
                  have hF7 := ((hf.trans hf4).trans hf45).trans (hf7.mono (by simp))
                  have hE6 := hG7.node (.int .u8 8) (.string (bt [])) (.int .i64 0) (.slice (some ⟨w5.heap.size, 0, none⟩) 2 2) (.slice none 0 0) (.slice none 0 0) (.slice none 0 0)
                  have hS6 := fr_node1 (w5.alloc (.cells (nd2 x hd y hdy) 46)) g (.int .u8 8) (.string (bt [])) (.int .i64 0) (.slice (some ⟨w5.heap.size, 0, none⟩) 2 2) (.slice none 0 0) (.slice none 0 0) (.slice none 0 0)
                  have hE0 := hD7.fr hS6 (by simp; omega)
                  have hR8 := hR7.fr hS6 (by simp; omega)
                  have hx8 := hx7.fr hS6 (fun k hk => by simp at hk; subst hk; exact .inr rfl)
                  have hy8' : NdH (fun b => b ≤ w.heap.size ∨ b = g) ny _ hdy y := (hy7.sub fun k hk hS => by
                    show k < w4.heap.size
                    rcases hS with hS | hS <;> omega).fr hS6 (fun k hk => by simp at hk; subst hk; exact .inr rfl)
                  have hF8 := fr_node (g := g) hF7 (.inr (by omega)) (.int .u8 8) (.string (bt [])) (.int .i64 0) (.slice (some ⟨w5.heap.size, 0, none⟩) 2 2) (.slice none 0 0) (.slice none 0 0) (.slice none 0 0)
                  have a8 := At.new hAt a7 hS6 (fun z hz => by simp at hz; subst hz; omega)
                  have hy8 := NdH.sub_ (k := 8) (t := bt []) (by omega) (LN.two (nd2_eq x hd y hdy ▸ hR8) (by omega) (hx8.mono (Nat.le_max_left nn ny)) (hy8'.mono (Nat.le_max_right nn ny)))
                  cases h2 : isW X.ws k2 (bt [93]) with
                  | false =>
                    rw [h2, if_neg (by simp)] at hp
                    injection hp with hp
                    subst hp
                    have H2 := Lib.hid h2
                    clear h2
                    go_wp2_with fail
                    refine (take_bad a8 H2.out).mono ?_
                    rintro en w9 ⟨rfl, hf9⟩
                    go_wp2_with fail
                    exact ⟨rfl, rfl, hF8.trans hf9⟩
                  | true =>
                    rw [h2, if_pos rfl] at hp
                    have H2 := Lib.hid h2
                    have HP2 := Lib.hid hp
                    clear h2 hp
                    go_wp2_with fail
                    refine (take_ok a8 H2.out).mono ?_
                    rintro en w9 ⟨rfl, hf9, a9⟩
                    have hE9 := fr_pb hE6 hf9 (by omega)
                    have hD9 := fr_pb hE0 hf9 (by omega)
                    have hy9 := hy8.fr hf9 (fun k hk => by simp at hk; subst hk; exact .inl (by omega))
                    go_wp2_with fail
                    go_roundg m
                    case measure => omega
                    case rel => exact ⟨ndk 8 (bt []) [x, y], ⟨some ⟨w5.heap.size, 0, none⟩, 2, none, 0, none, 0, none, 0⟩, _, true, k2 + 1, by omega, rfl, hE9, hD9, hy9, a9, HP2, hF8.trans hf9⟩
          | false =>
            rw [h1, if_neg (by simp)] at hp
            have H1 := Lib.hid h1
            clear h1
            cases h2 : isW X.ws k (bt [46]) with
            | true =>
              rw [h2, if_pos rfl] at hp
              have H2 := Lib.hid h2
              clear h2
              cases h3 : isW X.ws (k + 1) (bt [40]) with
              | false =>
                rw [h3, if_neg (by simp)] at hp
                injection hp with hp
                subst hp
                have H3 := Lib.hid h3
                clear h3
                go_wp2_with fail
                refine (has_no hk H1.out).mono ?_
                rintro en w40 ⟨rfl, hf40, a40⟩
                go_wp2_with fail
                refine (has_ok a40 H2.out).mono ?_
                rintro en w41 ⟨rfl, hf41, a41⟩
                go_wp2_with fail
                refine (take_bad a41 H3.out).mono ?_
                rintro en w42 ⟨rfl, hf42⟩
                go_wp2_with fail
                exact ⟨rfl, rfl, ((hf.trans hf40).trans hf41).trans hf42⟩
              | true =>
                rw [h3, if_pos rfl] at hp
                have H3 := Lib.hid h3
                have hlt := isW_lt h3
                clear h3
                cases hq : P X.ws m .args (k + 2) with
                | none => rw [hq] at hp; cases hp
                | some q =>
                  rw [hq] at hp
                  have HE := Lib.hid (HA.out m q (k + 2) (by omega) hq)
                  have hqq := Lib.hid hq
                  clear hq
                  go_wp2_with fail
                  refine (has_no hk H1.out).mono ?_
                  rintro en w40 ⟨rfl, hf40, a40⟩
                  go_wp2_with fail
                  refine (has_ok a40 H2.out).mono ?_
                  rintro en w41 ⟨rfl, hf41, a41⟩
                  go_wp2_with fail
                  refine (take_ok a41 H3.out).mono ?_
                  rintro en w4 ⟨rfl, hf42, a4⟩
                  have hf4 := (hf40.trans hf41).trans hf42
                  have hz4 := hf4.size
                  have hgl := hG.lt
                  have hG4 := fr_pb hG hf4 (by omega)
                  have hD4 := fr_pb hD hf4 (by omega)
                  have hx4 := hx.fr hf4 (fun k hk => by simp at hk; subst hk; exact .inl (by omega))
                  have d0 := hG4.cell 0 rfl
                  have d1 := hG4.cell 1 rfl
                  have d2 := hG4.cell 2 rfl
                  have d3 := hG4.cell 3 rfl
                  have d4 := hG4.cell 4 rfl
                  have d5 := hG4.cell 5 rfl
                  have d6 := hG4.cell 6 rfl
                  have dz0 := hG4.frozen 0
                  have dz1 := hG4.frozen 1
                  have dz2 := hG4.frozen 2
                  have dz3 := hG4.frozen 3
                  have dz4 := hG4.frozen 4
                  have dz5 := hG4.frozen 5
                  have dz6 := hG4.frozen 6
                  go_wp2_with fail
                  refine wp_region_held_drew (S := fun _ => True) (by kernel_rfl) (trivial) (fun hHeld => ?_)
                  refine wpAnyH_take (i := 2) (v := X.p) rfl (by kernel_rfl) (by kernel_rfl) (by kernel_rfl) (fun _ _ _ h => h) (Or.inl ⟨by rfl, fun w hSw => ?_⟩) (by assumption) ?_
                  · (try dsimp only at hSw); go_simp
                  try simp only [Act.put, List.setIfInBounds_toArray, List.set_cons_zero, List.set_cons_succ]
                  refine wpAnyH_ready (rs := [0, 3]) (by kernel_rfl) (by simp) ?_
                  refine AllReadyH.cons rfl (fun K hK => ?_) (AllReadyH.cons rfl (fun K hK => ?_) AllReadyH.nil)
                  · skip
                    go_simp
                    refine hK.out _ _ (trivial) (fun hHeld2 => ?_)
                    clear hK K hHeld
                    have hHeld := hHeld2
                    clear hHeld2
                    try simp only [Act.put, List.setIfInBounds_toArray, List.set_cons_zero, List.set_cons_succ]
                    refine wpAnyH_ready (rs := [1, 3]) (by kernel_rfl) (by simp) ?_
                    refine AllReadyH.cons rfl (fun K hK => ?_) (AllReadyH.cons rfl (fun K hK => ?_) AllReadyH.nil)
                    · skip
                      go_simp
                      refine hK.out _ _ (trivial) (fun hHeld2 => ?_)
                      clear hK K hHeld
                      have hHeld := hHeld2
                      clear hHeld2
                      try simp only [Act.put, List.setIfInBounds_toArray, List.set_cons_zero, List.set_cons_succ]
                      refine wpAnyH_ready (rs := [3]) (by kernel_rfl) (by simp) ?_
                      refine AllReadyH.cons rfl (fun K hK => ?_) AllReadyH.nil
                      go_simp
                      refine (HE.out _ (a4.fr0 frx)).mono ?_
                      intro en w5 hp5
                      cases q with
                      | bad k2 =>
                        obtain ⟨rfl, hf5⟩ := hp5
                        have hp : some (Out.bad k2) = some r := hp
                        injection hp with hp
                        subst hp
                        exact ⟨rfl, rfl, (hf.trans hf4).trans (Fr.trans frx hf5)⟩
                      | ok l b2 k2 =>
                        obtain ⟨As, cs, nl, rfl, hl, hf5, a5⟩ := hp5
                        have HP2 : Hid (P X.ws m (.postL (ndk 6 (bt []) (x :: l)) false) k2 = some r) := hp
                        have hll := args_len hlt hqq.out
                        have hml := X.hm
                        clear hp hqq
                        obtain ⟨ml, rfl⟩ := hl.pos
                        have hf45 : Fr [X.pb] w4 w5 := Fr.trans frx hf5
                        have hz5 := hf45.size
                        have hG5 := fr_pb hG4 hf45 (by omega)
                        have hD5 := fr_pb hD4 hf45 (by omega)
                        have hx5 := hx4.fr hf45 (fun k hk => by simp at hk; subst hk; exact .inl (by omega))
                        have hr0 : g < w4.heap.size := by have := hf4.size; omega
                        have hfa : Fr [X.pb] (w4.alloc (.cells (ndCells x hd) 46)) w5 := Fr.trans frx hf5
                        have hO : GNd (fun b => b ≤ w.heap.size ∨ b = g) nn w4.heap.size w5 (some ⟨w4.heap.size, 0, none⟩) 1 [x] [hd] := (GNd.one hx4 (Nat.le_refl _)).fr hfa (fun k hk => by simp at hk; subst hk; exact .inl (by omega)) (fun k hk => by simp at hk; subst hk; omega)
                        have hl7 : LN (fun b => (b ≤ w.heap.size ∨ b = g) ∨ RowB (some ⟨w4.heap.size, 0, none⟩) b) (ml + 1) w5 As cs l := hl.sub fun k hk hS => by
                            have hlt4 : k < w4.heap.size + 1 := by
                              rcases hS with (hS | hS) | ⟨a, ha, hab⟩
                              · omega
                              · omega
                              · injection ha with ha
                                subst ha
                                simp at hab
                                omega
                            simpa using hlt4
                        have hW7 : Fr [] w5 w5 := Fr.refl _ _
                        refine hK.out _ _ (trivial) (fun hHeld2 => ?_)
                        clear hK K hHeld
                        have hHeld := hHeld2
                        clear hHeld2
                        try simp only [Act.put, List.setIfInBounds_toArray, List.set_cons_zero, List.set_cons_succ]
                        obtain ⟨gs, hgl2, hcl, hnd⟩ := hl7.heads
                        have hG7 := hG5.fr hW7 (by simp)
                        have hD7 := hD5.fr hW7 (by simp)
                        have a7 := a5.fr0 hW7
                        have hle7 := hl7.1
                        have hF7 := ((hf.trans hf4).trans hf45).trans (hW7.mono (by simp))
                        have hb7 : w4.heap.size ≤ _ := Nat.le_trans hz5 hW7.size
                        refine wpAnyH_ready (rs := [4]) (by kernel_rfl) (by simp) ?_
                        refine AllReadyH.cons rfl (fun K hK => ?_) AllReadyH.nil
                        refine step_append_g rfl (.tmp 26) (.tmp 28) _ rfl elemNd (.slice (some ⟨w4.heap.size, 0, none⟩) 1 1) (flatN [x] [hd]) rfl hO.own As l.length cs (flatN l gs) rfl hcl (flatN_len l gs hgl2) hle7 (flatN_one l gs) (by simp; omega) hb7 ?_
                        intro A6 c6 w6 ho6 hg6 hat6
                        have hl1 : [x].length + l.length = (x :: l).length := by simp; omega
                        have hR6 := (hO.mono (Nat.le_max_left nn ml)).appL hgl2 (fun k y h e1 e2 => (hnd k y h e1 e2).mono (Nat.le_max_right nn ml)) hg6 ho6 hat6
                        have hF6 : Fr [X.pb] w w6 := Fr.app hF7 hO.own (by omega) hg6
                        have hG6 := hG7.grown hg6 (by simp [Value.ownBlock]; omega)
                        have hD6 := hD7.grown hg6 (by simp [Value.ownBlock]; omega)
                        have a6 : X.At w6 k2 := At.grown hAt a7 hg6 (fun b hb => Nat.le_trans (by omega) (hO.own.lt b hb).1)
                        rw [hl1]
                        clear HX HA HG hx hG hD ho6 hg6 hat6 hcl hnd hO hl7 hl hx5
                        refine hK.out _ _ (trivial) (fun hHeld2 => ?_)
                        clear hK K hHeld
                        have hHeld := hHeld2
                        clear hHeld2
                        try simp only [Act.put, List.setIfInBounds_toArray, List.set_cons_zero, List.set_cons_succ]
                        have q0 := hG6.cell 0 rfl
                        have q1 := hG6.cell 1 rfl
                        have q2 := hG6.cell 2 rfl
                        have q3 := hG6.cell 3 rfl
                        have q4 := hG6.cell 4 rfl
                        have q5 := hG6.cell 5 rfl
                        have q6 := hG6.cell 6 rfl
                        have qz0 := hG6.frozen 0
                        have qz1 := hG6.frozen 1
                        have qz2 := hG6.frozen 2
                        have qz3 := hG6.frozen 3
                        have qz4 := hG6.frozen 4
                        have qz5 := hG6.frozen 5
                        have qz6 := hG6.frozen 6
                        refine wpAnyH_ready (rs := [5]) (by kernel_rfl) (by simp) ?_
                        refine AllReadyH.cons rfl (fun K hK => ?_) AllReadyH.nil
                        go_simp
                        refine hK.out _ _ (trivial) (fun hHeld2 => ?_)
                        clear hK K hHeld
                        have hHeld := hHeld2
                        clear hHeld2
                        try simp only [Act.put, List.setIfInBounds_toArray, List.set_cons_zero, List.set_cons_succ]
                        refine wpAnyH_ready (rs := [6]) (by kernel_rfl) (by simp) ?_
                        refine AllReadyH.cons rfl (fun K hK => ?_) AllReadyH.nil
                        go_simp
                        refine hK.out _ _ (trivial) (fun hHeld2 => ?_)
                        clear hK K hHeld
                        have hHeld := hHeld2
                        clear hHeld2
                        try simp only [Act.put, List.setIfInBounds_toArray, List.set_cons_zero, List.set_cons_succ]
                        refine wpAnyH_ready (rs := [7]) (by kernel_rfl) (by simp) ?_
                        refine AllReadyH.cons rfl (fun K hK => ?_) AllReadyH.nil
                        go_simp
                        refine hK.out _ _ (trivial) (fun hHeld2 => ?_)
                        clear hK K hHeld
                        have hHeld := hHeld2
                        clear hHeld2
                        try simp only [Act.put, List.setIfInBounds_toArray, List.set_cons_zero, List.set_cons_succ]
                        refine wpAnyH_done (by kernel_rfl) ?_ _
                        have hE6 := hG6.node (.int .u8 6) (.string (bt [])) (.int .i64 0) (.slice A6 (x :: l).length c6) (.slice none 0 0) (.slice none 0 0) (.slice none 0 0)
                        have hS6 := fr_node1 w6 g (.int .u8 6) (.string (bt [])) (.int .i64 0) (.slice A6 (x :: l).length c6) (.slice none 0 0) (.slice none 0 0) (.slice none 0 0)
                        have hE0 := hD6.fr hS6 (by simp; omega)
                        have hR8 := hR6.fr hS6 (fun k hk => by simp at hk; subst hk; exact .inr rfl) (fun k hk => by simp at hk; subst hk; omega)
                        have hF8 := fr_node (g := g) hF6 (.inr (by omega)) (.int .u8 6) (.string (bt [])) (.int .i64 0) (.slice A6 (x :: l).length c6) (.slice none 0 0) (.slice none 0 0) (.slice none 0 0)
                        have a8 := At.new hAt a6 hS6 (fun z hz => by simp at hz; subst hz; omega)
                        have hy8 := NdH.sub_ (k := 6) (t := bt []) (by omega) (hR8.ln (fun k hk hS => by rcases hS with hS | hS <;> omega))
                        go_wp2_with fail
                        go_roundg m
                        case measure => omega
                        case rel => exact ⟨ndk 6 (bt []) (x :: l), ⟨A6, c6, none, 0, none, 0, none, 0⟩, _, false, k2, by omega, rfl, hE6, hE0, hy8, a8, HP2, hF8⟩
                    · skip
                      go_simp
                      refine (HE.out _ (a4.fr0 frx)).mono ?_
                      intro en w5 hp5
                      cases q with
                      | bad k2 =>
                        obtain ⟨rfl, hf5⟩ := hp5
                        have hp : some (Out.bad k2) = some r := hp
                        injection hp with hp
                        subst hp
                        exact ⟨rfl, rfl, (hf.trans hf4).trans (Fr.trans frx hf5)⟩
                      | ok l b2 k2 =>
                        obtain ⟨As, cs, nl, rfl, hl, hf5, a5⟩ := hp5
                        have HP2 : Hid (P X.ws m (.postL (ndk 6 (bt []) (x :: l)) false) k2 = some r) := hp
                        have hll := args_len hlt hqq.out
                        have hml := X.hm
                        clear hp hqq
                        obtain ⟨ml, rfl⟩ := hl.pos
                        have hf45 : Fr [X.pb] w4 w5 := Fr.trans frx hf5
                        have hz5 := hf45.size
                        have hG5 := fr_pb hG4 hf45 (by omega)
                        have hD5 := fr_pb hD4 hf45 (by omega)
                        have hx5 := hx4.fr hf45 (fun k hk => by simp at hk; subst hk; exact .inl (by omega))
                        have hr0 : g < w5.heap.size := hG5.lt
                        have hW7 : Fr [] w5 (w5.alloc (.cells (ndCells x hd) 46)) := (Fr.refl _ _).alloc _
                        have hO : GNd (fun b => b ≤ w.heap.size ∨ b = g) nn w4.heap.size (w5.alloc (.cells (ndCells x hd) 46)) (some ⟨w5.heap.size, 0, none⟩) 1 [x] [hd] := GNd.one hx5 hz5
                        have hl7 : LN (fun b => (b ≤ w.heap.size ∨ b = g) ∨ RowB (some ⟨w5.heap.size, 0, none⟩) b) (ml + 1) (w5.alloc (.cells (ndCells x hd) 46)) As cs l := (hl.sub fun k hk hS => by
                            have hlt4 : k < w4.heap.size := by
                              rcases hS with (hS | hS) | ⟨a, ha, hab⟩
                              · omega
                              · omega
                              · injection ha with ha
                                subst ha
                                simp at hab
                                omega
                            simpa using hlt4).fr0 hW7
                        refine hK.out _ _ (trivial) (fun hHeld2 => ?_)
                        clear hK K hHeld
                        have hHeld := hHeld2
                        clear hHeld2
                        try simp only [Act.put, List.setIfInBounds_toArray, List.set_cons_zero, List.set_cons_succ]
                        refine wpAnyH_ready (rs := [1]) (by kernel_rfl) (by simp) ?_
                        refine AllReadyH.cons rfl (fun K hK => ?_) AllReadyH.nil
                        go_simp
                        refine hK.out _ _ (trivial) (fun hHeld2 => ?_)
                        clear hK K hHeld
                        have hHeld := hHeld2
                        clear hHeld2
                        try simp only [Act.put, List.setIfInBounds_toArray, List.set_cons_zero, List.set_cons_succ]
                        obtain ⟨gs, hgl2, hcl, hnd⟩ := hl7.heads
                        have hG7 := hG5.fr hW7 (by simp)
                        have hD7 := hD5.fr hW7 (by simp)
                        have a7 := a5.fr0 hW7
                        have hle7 := hl7.1
                        have hF7 := ((hf.trans hf4).trans hf45).trans (hW7.mono (by simp))
                        have hb7 : w4.heap.size ≤ _ := Nat.le_trans hz5 hW7.size
                        refine wpAnyH_ready (rs := [4]) (by kernel_rfl) (by simp) ?_
                        refine AllReadyH.cons rfl (fun K hK => ?_) AllReadyH.nil
                        refine step_append_g rfl (.tmp 26) (.tmp 28) _ rfl elemNd (.slice (some ⟨w5.heap.size, 0, none⟩) 1 1) (flatN [x] [hd]) rfl hO.own As l.length cs (flatN l gs) rfl hcl (flatN_len l gs hgl2) hle7 (flatN_one l gs) (by simp; omega) hb7 ?_
                        intro A6 c6 w6 ho6 hg6 hat6
                        have hl1 : [x].length + l.length = (x :: l).length := by simp; omega
                        have hR6 := (hO.mono (Nat.le_max_left nn ml)).appL hgl2 (fun k y h e1 e2 => (hnd k y h e1 e2).mono (Nat.le_max_right nn ml)) hg6 ho6 hat6
                        have hF6 : Fr [X.pb] w w6 := Fr.app hF7 hO.own (by omega) hg6
                        have hG6 := hG7.grown hg6 (by simp [Value.ownBlock]; omega)
                        have hD6 := hD7.grown hg6 (by simp [Value.ownBlock]; omega)
                        have a6 : X.At w6 k2 := At.grown hAt a7 hg6 (fun b hb => Nat.le_trans (by omega) (hO.own.lt b hb).1)
                        rw [hl1]
                        clear HX HA HG hx hG hD ho6 hg6 hat6 hcl hnd hO hl7 hl hx5
                        refine hK.out _ _ (trivial) (fun hHeld2 => ?_)
                        clear hK K hHeld
                        have hHeld := hHeld2
                        clear hHeld2
                        try simp only [Act.put, List.setIfInBounds_toArray, List.set_cons_zero, List.set_cons_succ]
                        have q0 := hG6.cell 0 rfl
                        have q1 := hG6.cell 1 rfl
                        have q2 := hG6.cell 2 rfl
                        have q3 := hG6.cell 3 rfl
                        have q4 := hG6.cell 4 rfl
                        have q5 := hG6.cell 5 rfl
                        have q6 := hG6.cell 6 rfl
                        have qz0 := hG6.frozen 0
                        have qz1 := hG6.frozen 1
                        have qz2 := hG6.frozen 2
                        have qz3 := hG6.frozen 3
                        have qz4 := hG6.frozen 4
                        have qz5 := hG6.frozen 5
                        have qz6 := hG6.frozen 6
                        refine wpAnyH_ready (rs := [5]) (by kernel_rfl) (by simp) ?_
                        refine AllReadyH.cons rfl (fun K hK => ?_) AllReadyH.nil
                        go_simp
                        refine hK.out _ _ (trivial) (fun hHeld2 => ?_)
                        clear hK K hHeld
                        have hHeld := hHeld2
                        clear hHeld2
                        try simp only [Act.put, List.setIfInBounds_toArray, List.set_cons_zero, List.set_cons_succ]
                        refine wpAnyH_ready (rs := [6]) (by kernel_rfl) (by simp) ?_
                        refine AllReadyH.cons rfl (fun K hK => ?_) AllReadyH.nil
                        go_simp
                        refine hK.out _ _ (trivial) (fun hHeld2 => ?_)
                        clear hK K hHeld
                        have hHeld := hHeld2
                        clear hHeld2
                        try simp only [Act.put, List.setIfInBounds_toArray, List.set_cons_zero, List.set_cons_succ]
                        refine wpAnyH_ready (rs := [7]) (by kernel_rfl) (by simp) ?_
                        refine AllReadyH.cons rfl (fun K hK => ?_) AllReadyH.nil
                        go_simp
                        refine hK.out _ _ (trivial) (fun hHeld2 => ?_)
                        clear hK K hHeld
                        have hHeld := hHeld2
                        clear hHeld2
                        try simp only [Act.put, List.setIfInBounds_toArray, List.set_cons_zero, List.set_cons_succ]
                        refine wpAnyH_done (by kernel_rfl) ?_ _
                        have hE6 := hG6.node (.int .u8 6) (.string (bt [])) (.int .i64 0) (.slice A6 (x :: l).length c6) (.slice none 0 0) (.slice none 0 0) (.slice none 0 0)
                        have hS6 := fr_node1 w6 g (.int .u8 6) (.string (bt [])) (.int .i64 0) (.slice A6 (x :: l).length c6) (.slice none 0 0) (.slice none 0 0) (.slice none 0 0)
                        have hE0 := hD6.fr hS6 (by simp; omega)
                        have hR8 := hR6.fr hS6 (fun k hk => by simp at hk; subst hk; exact .inr rfl) (fun k hk => by simp at hk; subst hk; omega)
                        have hF8 := fr_node (g := g) hF6 (.inr (by omega)) (.int .u8 6) (.string (bt [])) (.int .i64 0) (.slice A6 (x :: l).length c6) (.slice none 0 0) (.slice none 0 0) (.slice none 0 0)
                        have a8 := At.new hAt a6 hS6 (fun z hz => by simp at hz; subst hz; omega)
                        have hy8 := NdH.sub_ (k := 6) (t := bt []) (by omega) (hR8.ln (fun k hk hS => by rcases hS with hS | hS <;> omega))
                        go_wp2_with fail
                        go_roundg m
                        case measure => omega
                        case rel => exact ⟨ndk 6 (bt []) (x :: l), ⟨A6, c6, none, 0, none, 0, none, 0⟩, _, false, k2, by omega, rfl, hE6, hE0, hy8, a8, HP2, hF8⟩
                  · skip
                    go_simp
                    refine (HE.out _ (a4.fr0 frx)).mono ?_
                    intro en w5 hp5
                    cases q with
                    | bad k2 =>
                      obtain ⟨rfl, hf5⟩ := hp5
                      have hp : some (Out.bad k2) = some r := hp
                      injection hp with hp
                      subst hp
                      exact ⟨rfl, rfl, (hf.trans hf4).trans (Fr.trans frx hf5)⟩
                    | ok l b2 k2 =>
                      obtain ⟨As, cs, nl, rfl, hl, hf5, a5⟩ := hp5
                      have HP2 : Hid (P X.ws m (.postL (ndk 6 (bt []) (x :: l)) false) k2 = some r) := hp
                      have hll := args_len hlt hqq.out
                      have hml := X.hm
                      clear hp hqq
                      obtain ⟨ml, rfl⟩ := hl.pos
                      have hf45 : Fr [X.pb] w4 w5 := Fr.trans frx hf5
                      have hz5 := hf45.size
                      have hG5 := fr_pb hG4 hf45 (by omega)
                      have hD5 := fr_pb hD4 hf45 (by omega)
                      have hx5 := hx4.fr hf45 (fun k hk => by simp at hk; subst hk; exact .inl (by omega))
                      have hr0 : g < w5.heap.size := hG5.lt
                      have hW7 : Fr [] w5 (w5.alloc (.cells (ndCells x hd) 46)) := (Fr.refl _ _).alloc _
                      have hO : GNd (fun b => b ≤ w.heap.size ∨ b = g) nn w4.heap.size (w5.alloc (.cells (ndCells x hd) 46)) (some ⟨w5.heap.size, 0, none⟩) 1 [x] [hd] := GNd.one hx5 hz5
                      have hl7 : LN (fun b => (b ≤ w.heap.size ∨ b = g) ∨ RowB (some ⟨w5.heap.size, 0, none⟩) b) (ml + 1) (w5.alloc (.cells (ndCells x hd) 46)) As cs l := (hl.sub fun k hk hS => by
                          have hlt4 : k < w4.heap.size := by
                            rcases hS with (hS | hS) | ⟨a, ha, hab⟩
                            · omega
                            · omega
                            · injection ha with ha
                              subst ha
                              simp at hab
                              omega
                          simpa using hlt4).fr0 hW7
                      refine hK.out _ _ (trivial) (fun hHeld2 => ?_)
                      clear hK K hHeld
                      have hHeld := hHeld2
                      clear hHeld2
                      try simp only [Act.put, List.setIfInBounds_toArray, List.set_cons_zero, List.set_cons_succ]
                      have e0 := hG5.cell 0 rfl
                      have e1 := hG5.cell 1 rfl
                      have e2 := hG5.cell 2 rfl
                      have e3 := hG5.cell 3 rfl
                      have e4 := hG5.cell 4 rfl
                      have e5 := hG5.cell 5 rfl
                      have e6 := hG5.cell 6 rfl
                      have ez0 := hG5.frozen 0
                      have ez1 := hG5.frozen 1
                      have ez2 := hG5.frozen 2
                      have ez3 := hG5.frozen 3
                      have ez4 := hG5.frozen 4
                      have ez5 := hG5.frozen 5
                      have ez6 := hG5.frozen 6
                      refine wpAnyH_ready (rs := [0]) (by kernel_rfl) (by simp) ?_
                      refine AllReadyH.cons rfl (fun K hK => ?_) AllReadyH.nil
                      go_simp
                      refine hK.out _ _ (trivial) (fun hHeld2 => ?_)
                      clear hK K hHeld
                      have hHeld := hHeld2
                      clear hHeld2
                      try simp only [Act.put, List.setIfInBounds_toArray, List.set_cons_zero, List.set_cons_succ]
                      refine wpAnyH_ready (rs := [1]) (by kernel_rfl) (by simp) ?_
                      refine AllReadyH.cons rfl (fun K hK => ?_) AllReadyH.nil
                      go_simp
                      refine hK.out _ _ (trivial) (fun hHeld2 => ?_)
                      clear hK K hHeld
                      have hHeld := hHeld2
                      clear hHeld2
                      try simp only [Act.put, List.setIfInBounds_toArray, List.set_cons_zero, List.set_cons_succ]
                      obtain ⟨gs, hgl2, hcl, hnd⟩ := hl7.heads
                      have hG7 := hG5.fr hW7 (by simp)
                      have hD7 := hD5.fr hW7 (by simp)
                      have a7 := a5.fr0 hW7
                      have hle7 := hl7.1
                      have hF7 := ((hf.trans hf4).trans hf45).trans (hW7.mono (by simp))
                      have hb7 : w4.heap.size ≤ _ := Nat.le_trans hz5 hW7.size
                      refine wpAnyH_ready (rs := [4]) (by kernel_rfl) (by simp) ?_
                      refine AllReadyH.cons rfl (fun K hK => ?_) AllReadyH.nil
                      refine step_append_g rfl (.tmp 26) (.tmp 28) _ rfl elemNd (.slice (some ⟨w5.heap.size, 0, none⟩) 1 1) (flatN [x] [hd]) rfl hO.own As l.length cs (flatN l gs) rfl hcl (flatN_len l gs hgl2) hle7 (flatN_one l gs) (by simp; omega) hb7 ?_
                      intro A6 c6 w6 ho6 hg6 hat6
                      have hl1 : [x].length + l.length = (x :: l).length := by simp; omega
                      have hR6 := (hO.mono (Nat.le_max_left nn ml)).appL hgl2 (fun k y h e1 e2 => (hnd k y h e1 e2).mono (Nat.le_max_right nn ml)) hg6 ho6 hat6
                      have hF6 : Fr [X.pb] w w6 := Fr.app hF7 hO.own (by omega) hg6
                      have hG6 := hG7.grown hg6 (by simp [Value.ownBlock]; omega)
                      have hD6 := hD7.grown hg6 (by simp [Value.ownBlock]; omega)
                      have a6 : X.At w6 k2 := At.grown hAt a7 hg6 (fun b hb => Nat.le_trans (by omega) (hO.own.lt b hb).1)
                      rw [hl1]
                      clear HX HA HG hx hG hD ho6 hg6 hat6 hcl hnd hO hl7 hl hx5
                      refine hK.out _ _ (trivial) (fun hHeld2 => ?_)
                      clear hK K hHeld
                      have hHeld := hHeld2
                      clear hHeld2
                      try simp only [Act.put, List.setIfInBounds_toArray, List.set_cons_zero, List.set_cons_succ]
                      have q0 := hG6.cell 0 rfl
                      have q1 := hG6.cell 1 rfl
                      have q2 := hG6.cell 2 rfl
                      have q3 := hG6.cell 3 rfl
                      have q4 := hG6.cell 4 rfl
                      have q5 := hG6.cell 5 rfl
                      have q6 := hG6.cell 6 rfl
                      have qz0 := hG6.frozen 0
                      have qz1 := hG6.frozen 1
                      have qz2 := hG6.frozen 2
                      have qz3 := hG6.frozen 3
                      have qz4 := hG6.frozen 4
                      have qz5 := hG6.frozen 5
                      have qz6 := hG6.frozen 6
                      refine wpAnyH_ready (rs := [5]) (by kernel_rfl) (by simp) ?_
                      refine AllReadyH.cons rfl (fun K hK => ?_) AllReadyH.nil
                      go_simp
                      refine hK.out _ _ (trivial) (fun hHeld2 => ?_)
                      clear hK K hHeld
                      have hHeld := hHeld2
                      clear hHeld2
                      try simp only [Act.put, List.setIfInBounds_toArray, List.set_cons_zero, List.set_cons_succ]
                      refine wpAnyH_ready (rs := [6]) (by kernel_rfl) (by simp) ?_
                      refine AllReadyH.cons rfl (fun K hK => ?_) AllReadyH.nil
                      go_simp
                      refine hK.out _ _ (trivial) (fun hHeld2 => ?_)
                      clear hK K hHeld
                      have hHeld := hHeld2
                      clear hHeld2
                      try simp only [Act.put, List.setIfInBounds_toArray, List.set_cons_zero, List.set_cons_succ]
                      refine wpAnyH_ready (rs := [7]) (by kernel_rfl) (by simp) ?_
                      refine AllReadyH.cons rfl (fun K hK => ?_) AllReadyH.nil
                      go_simp
                      refine hK.out _ _ (trivial) (fun hHeld2 => ?_)
                      clear hK K hHeld
                      have hHeld := hHeld2
                      clear hHeld2
                      try simp only [Act.put, List.setIfInBounds_toArray, List.set_cons_zero, List.set_cons_succ]
                      refine wpAnyH_done (by kernel_rfl) ?_ _
                      have hE6 := hG6.node (.int .u8 6) (.string (bt [])) (.int .i64 0) (.slice A6 (x :: l).length c6) (.slice none 0 0) (.slice none 0 0) (.slice none 0 0)
                      have hS6 := fr_node1 w6 g (.int .u8 6) (.string (bt [])) (.int .i64 0) (.slice A6 (x :: l).length c6) (.slice none 0 0) (.slice none 0 0) (.slice none 0 0)
                      have hE0 := hD6.fr hS6 (by simp; omega)
                      have hR8 := hR6.fr hS6 (fun k hk => by simp at hk; subst hk; exact .inr rfl) (fun k hk => by simp at hk; subst hk; omega)
                      have hF8 := fr_node (g := g) hF6 (.inr (by omega)) (.int .u8 6) (.string (bt [])) (.int .i64 0) (.slice A6 (x :: l).length c6) (.slice none 0 0) (.slice none 0 0) (.slice none 0 0)
                      have a8 := At.new hAt a6 hS6 (fun z hz => by simp at hz; subst hz; omega)
                      have hy8 := NdH.sub_ (k := 6) (t := bt []) (by omega) (hR8.ln (fun k hk hS => by rcases hS with hS | hS <;> omega))
                      go_wp2_with fail
                      go_roundg m
                      case measure => omega
                      case rel => exact ⟨ndk 6 (bt []) (x :: l), ⟨A6, c6, none, 0, none, 0, none, 0⟩, _, false, k2, by omega, rfl, hE6, hE0, hy8, a8, HP2, hF8⟩
            | false =>
              rw [h2, if_neg (by simp)] at hp
              injection hp with hp
              subst hp
              have H2 := Lib.hid h2
              clear h2
              go_wp2_with fail
              refine (has_no hk H1.out).mono ?_
              rintro en w40 ⟨rfl, hf40, a40⟩
              go_wp2_with fail
              refine (has_no a40 H2.out).mono ?_
              rintro en w4 ⟨rfl, hf41, a4⟩
              have hf4 := hf40.trans hf41
              have hG4 := fr_pb hG hf4 (by omega)
              have hD4 := fr_pb hD hf4 (by omega)
              have hx4 := hx.fr hf4 (fun k hk => by simp at hk; subst hk; exact .inl (by omega))
              have c0 := hD4.cell 0 rfl
              have c1 := hD4.cell 1 rfl
              have c2 := hD4.cell 2 rfl
              have c3 := hD4.cell 3 rfl
              have c4 := hD4.cell 4 rfl
              have c5 := hD4.cell 5 rfl
              have c6 := hD4.cell 6 rfl
              have cz0 := hD4.frozen 0
              have cz1 := hD4.frozen 1
              have cz2 := hD4.frozen 2
              have cz3 := hD4.frozen 3
              have cz4 := hD4.frozen 4
              have cz5 := hD4.frozen 5
              have cz6 := hD4.frozen 6
              have d0 := hG4.cell 0 rfl
              have d1 := hG4.cell 1 rfl
              have d2 := hG4.cell 2 rfl
              have d3 := hG4.cell 3 rfl
              have d4 := hG4.cell 4 rfl
              have d5 := hG4.cell 5 rfl
              have d6 := hG4.cell 6 rfl
              have dz0 := hG4.frozen 0
              have dz1 := hG4.frozen 1
              have dz2 := hG4.frozen 2
              have dz3 := hG4.frozen 3
              have dz4 := hG4.frozen 4
              have dz5 := hG4.frozen 5
              have dz6 := hG4.frozen 6
              go_wp2_with fail
              refine bodyPost_ret (results_node2 rfl _ _ w.heap.size rfl (hD4.node _ _ _ _ _ _ _)) rfl ?_
              have hS := hD4.fr1 (.int .u8 x.kind) (.string x.text) (.int .i64 x.num) (.slice hd.As x.subs.length hd.cs) (.slice hd.Ap x.params.length hd.cp) (.slice hd.Ab x.body.length hd.cb) (.slice hd.Ae x.els.length hd.ce)
              exact ⟨hd, nn, rfl, (hx4.fr hS (fun k hk => by simp at hk; subst hk; exact .inl (Nat.le_refl _))).sub (fun k _ hk => .inl (Nat.le_of_lt hk)), fr_node (hf.trans hf4) (.inr (Nat.le_refl _)) _ _ _ _ _ _ _, At.new hAt a4 hS (by simp)⟩
end
end

/- other of the parser (printed by gen/other.py). -/
section
open Go.RowKit
set_option linter.unusedSimpArgs false
section
variable {X : Px} {i j : Nat}
theorem wp_hide {P : Program} {c : Code} {Q : Exit → Act → World → Prop} {a : Act} {w : World} (h : ∀ M, M = w → c.wp P Q a M) : c.wp P Q a w := h w rfl
theorem calls_hide {P : Program} {f : FuncId} {args : Array Value} {w : World} {R : Ending → World → Prop} (h : ∀ M, M = w → Calls P f args M R) : Calls P f args w R := h w rfl
theorem wpAnyH_end {P : Program} {md : Region.Mode} {ops : Array Oper} {Q : Exit → Act → World → Prop} {S : World → Prop} {listed : Array Bool} {a : Act} {w : World} (hr : Region.ready md ops listed = []) (h : ∀ M, M = w → Q .normal a M) (fuel : Nat) : wpAnyH P md ops Q S fuel listed a w := wpAnyH_done hr (h w rfl) fuel
theorem LN.flat {S : Nat → Prop} {n : Nat} {w : World} {g : Nat} {t : TypeId} {l : List Nd} {hs : List HdN} (hb : Blk w g t (flatN l hs).toArray) (hlen : hs.length = l.length) (hS : ¬ S g) (hc : l.length ≤ maxLen)
  (hx : ∀ (k : Nat) (y : Nd) (h : HdN), l[k]? = some y → hs[k]? = some h → NdH S n w h y) : LN S (n + 1) w (some ⟨g, 0, none⟩) l.length l := by
 refine ⟨Nat.le_refl _, hc, fun _ => ⟨g, 0, rfl, hS, fun k y hk => ?_⟩⟩
 have hkl : k < hs.length := by
  rw [hlen]
  exact (List.getElem?_eq_some_iff.1 hk).1
 have hh := List.getElem?_eq_getElem hkl
 have hxx := hx k y _ hk hh
 have hj : ∀ j, j < 7 → ∀ u, (ndL y hs[k])[j]? = some u → w.cell? ⟨g, 0 + (k * 7 + j), none⟩ = some u := fun j hj u hu => by
  rw [Nat.zero_add]
  refine hb.cell _ ?_
  have := flatN_at l hs k j y _ hk hh hj
  rw [hu] at this
  simpa using this
 refine ⟨hs[k], ⟨?_, ?_, ?_, ?_, ?_, ?_, ?_⟩, hxx.ok, hxx.subs, hxx.params, hxx.body, hxx.els⟩
 ·simpa using hj 0 (by omega) _ rfl
 ·have := hj 1 (by omega) _ rfl; rw [← Nat.add_assoc] at this; exact this
 ·have := hj 2 (by omega) _ rfl; rw [← Nat.add_assoc] at this; exact this
 ·have := hj 3 (by omega) _ rfl; rw [← Nat.add_assoc] at this; exact this
 ·have := hj 4 (by omega) _ rfl; rw [← Nat.add_assoc] at this; exact this
 ·have := hj 5 (by omega) _ rfl; rw [← Nat.add_assoc] at this; exact this
 ·have := hj 6 (by omega) _ rfl; rw [← Nat.add_assoc] at this; exact this
theorem two_of {α : Type} {l : List α} (h : l.length = 2) : ∃ a b, l = [a, b] := by
 match l, h with
 | [a, b], _ => exact ⟨a, b, rfl⟩
theorem Nd1.fin {w W : World} {x : Nd} {hd : HdN} {n : Nat} (h : X.At w i) (hF : Fr [X.pb] w W) (a : X.At W j) (hlt : w.heap.size < W.heap.size) (hy : NdH (fun b => b ≤ w.heap.size) n W hd x) :
  X.Nd1 w x j (.returned (.agg (ndCells x hd))) (((((((W.setCell ⟨w.heap.size, 0, none⟩ (.int .u8 x.kind)).setCell ⟨w.heap.size, 1, none⟩ (.string x.text)).setCell ⟨w.heap.size, 2, none⟩ (.int .i64 x.num)).setCell ⟨w.heap.size, 3, none⟩ (.slice hd.As x.subs.length hd.cs)).setCell ⟨w.heap.size, 4, none⟩ (.slice hd.Ap x.params.length hd.cp)).setCell ⟨w.heap.size, 5, none⟩ (.slice hd.Ab x.body.length hd.cb)).setCell ⟨w.heap.size, 6, none⟩ (.slice hd.Ae x.els.length hd.ce)) :=
 ⟨hd, n, rfl, (hy.fr (fr_node1 _ w.heap.size _ _ _ _ _ _ _) (fun k hk => by simp at hk; subst hk; exact Nat.le_refl _)).sub (fun k _ hk => Nat.le_of_lt hk), fr_node hF (.inr (Nat.le_refl _)) _ _ _ _ _ _ _, At.new h a (fr_node1 _ _ _ _ _ _ _ _ _) (by simp)⟩
theorem ended_ok {w : World} (x : Nd) (hd : HdN) (h : X.At w j) (hs : isW X.ws j (bt [59]) = true) : Calls Tryz.prog 227 #[X.p, .agg (ndCells x hd)] w (fun en w' => en = .returned (.agg (ndCells x hd)) ∧ Fr [X.pb] w w' ∧ X.At w' (j + 1)) := by
 have := ended_any (X := X) x hd w h
 rw [hs, if_pos rfl] at this
 exact this
theorem ended_bad {w : World} (x : Nd) (hd : HdN) (h : X.At w j) (hs : isW X.ws j (bt [59]) = false) : Calls Tryz.prog 227 #[X.p, .agg (ndCells x hd)] w (X.Bad w j) := by
 have := ended_any (X := X) x hd w h
 rw [hs, if_neg (by simp)] at this
 exact this
abbrev nd3 (x : Nd) (h : HdN) (y : Nd) (g : HdN) (z : Nd) (f : HdN) : Array Value := #[.int .u8 x.kind, .string x.text, .int .i64 x.num, .slice h.As x.subs.length h.cs, .slice h.Ap x.params.length h.cp, .slice h.Ab x.body.length h.cb, .slice h.Ae x.els.length h.ce, .int .u8 y.kind, .string y.text, .int .i64 y.num, .slice g.As y.subs.length g.cs, .slice g.Ap y.params.length g.cp, .slice g.Ab y.body.length g.cb, .slice g.Ae y.els.length g.ce,
 .int .u8 z.kind, .string z.text, .int .i64 z.num, .slice f.As z.subs.length f.cs, .slice f.Ap z.params.length f.cp, .slice f.Ab z.body.length f.cb, .slice f.Ae z.els.length f.ce]
set_option maxRecDepth 20000 in
set_option maxHeartbeats 6400000 in
theorem other_step {n : Nat} {r : Out} (w : World) (h : X.At w i) (hr : P X.ws (n + 1) .other i = some r)
    (hb : ∀ q, P X.ws n (.bin 0) i = some q → ∀ w', X.At w' i → Calls Tryz.prog 244 #[X.p, .int .i64 0] w' (X.R2 w' q))
    (he : ∀ q k, P X.ws n .expr k = some q → ∀ w', X.At w' k → Calls Tryz.prog 228 #[X.p] w' (X.R1 w' q)) :
    Calls Tryz.prog 230 #[X.p] w (X.R1 w r) := by
  rw [P] at hr
  obtain ⟨V, hV⟩ : ∃ V, V = w.alloc (.cells zeroN 46) := ⟨_, rfl⟩
  have hf0 : Fr [] w V := by rw [hV]; exact frx
  have hB1 : Blk V w.heap.size 46 zeroN := by rw [hV]; exact Blk.new _ _ _ _ rfl
  have hpl := X.lt h
  have hz := hf0.size
  have hVz : w.heap.size < V.heap.size := hB1.lt
  have hV0 := h.fr0 hf0
  have hAt := h
  have HV := Lib.hid hV.symm
  clear hV
  have HX := Lib.hid he
  clear he
  cases hq : P X.ws n (.bin 0) i with
  | none => rw [hq] at hr; cases hr
  | some q =>
    rw [hq] at hr
    have HE := Lib.hid (hb q hq)
    have hqq := Lib.hid hq
    clear hq hb
    go_enter Tryz.func230, Tryz.ntmps230
    go_wp2_with fail
    rw [HV.out]
    refine (HE.out _ hV0).mono ?_
    intro en w1 hp1
    cases q with
    | bad k =>
      obtain ⟨rfl, hf1⟩ := hp1
      have hr : some (Out.bad k) = some r := hr
      injection hr with hr
      subst hr
      go_wp2_with fail
      exact ⟨rfl, rfl, (hf0.mono (by simp)).trans hf1⟩
    | ok l b k =>
      obtain ⟨hd, nn, rfl, hx, hf1, a1⟩ := hp1
      have h2 : Hid (b = true → (hd1 l).subs.length = 2) := fun hb => by subst hb; exact P_two X.ws n (.bin 0) i l k trivial hqq.out
      have hp : (if b && isW X.ws k (bt [61]) then andW (P X.ws n .expr (k + 1)) fun m _ j2 => endedW X.ws (ndk 16 (bt []) ((hd1 l).subs.take 2 ++ [hd1 m])) j2 else endedW X.ws (ndk 27 (bt []) [hd1 l]) k) = some r := hr
      clear hr hqq
      generalize hd1 l = x at *
      have hF1 : Fr [X.pb] w w1 := (hf0.mono (by simp)).trans hf1
      have hz1 := hf1.size
      have hD1 := fr_pb hB1 hf1 (by omega)
      obtain ⟨N, hN⟩ : ∃ N, N = w1.alloc (.cells (ndCells x hd) 46) := ⟨_, rfl⟩
      have hW1 : Fr [] w1 N := by rw [hN]; exact (Fr.refl _ _).alloc _
      have hG : Blk N w1.heap.size 46 (ndCells x hd) := by rw [hN]; exact Blk.new _ _ _ _ rfl
      obtain ⟨g, hg⟩ : ∃ g, g = w1.heap.size := ⟨_, rfl⟩
      rw [← hg] at hG
      have hgw : w.heap.size < g := by omega
      have hgN := hG.lt
      have HN := Lib.hid hN.symm
      have HG := Lib.hid hg
      have hD := hD1.fr hW1 (by simp)
      have a := a1.fr0 hW1
      have hx : NdH (fun b => b ≤ w.heap.size) nn N hd x := (hx.fr0 hW1).sub fun k _ hk => by show k < V.heap.size; omega
      have hF := hF1.trans (hW1.mono (by simp))
      have hzN := hF.size
      clear hN hg hW1 hf1 hD1
      go_upto_region 2 with fail
      rw [← HG.out, HN.out]
      clear HN
      cases b with
      | false =>
        have d0 := hG.cell 0 rfl
        have d1 := hG.cell 1 rfl
        have d2 := hG.cell 2 rfl
        have d3 := hG.cell 3 rfl
        have d4 := hG.cell 4 rfl
        have d5 := hG.cell 5 rfl
        have d6 := hG.cell 6 rfl
        have dz0 := hG.frozen 0
        have dz1 := hG.frozen 1
        have dz2 := hG.frozen 2
        have dz3 := hG.frozen 3
        have dz4 := hG.frozen 4
        have dz5 := hG.frozen 5
        have dz6 := hG.frozen 6
        have hr4 : endedW X.ws (ndk 27 (bt []) [x]) k = some r := hp
        unfold endedW at hr4
        have hN4 : Fr [] N (N.alloc (.cells (ndCells x hd) 46)) := (Fr.refl _ _).alloc _
        have hR4 : Blk (N.alloc (.cells (ndCells x hd) 46)) N.heap.size 46 (ndCells x hd) := Blk.new _ _ _ _ rfl
        have hD4 := hD.fr hN4 (by simp)
        have hy4 := NdH.sub_ (k := 27) (t := bt []) (by omega) (LN.one hR4 (by have := hF.size; omega) (hx.fr0 hN4))
        have a4 := a.fr0 hN4
        have hF4 := hF.trans (hN4.mono (by simp))
        cases h3 : isW X.ws k (bt [59]) with
        | false =>
          rw [h3, if_neg (by simp)] at hr4
          injection hr4 with hr4
          subst hr4
          have H3 := Lib.hid h3
          clear h3
          go_wp2_with fail
          refine (ended_bad (ndk 27 (bt []) [x]) ⟨some ⟨N.heap.size, 0, none⟩, 1, none, 0, none, 0, none, 0⟩ a4 H3.out).mono ?_
          rintro en w5 ⟨rfl, hf5⟩
          go_wp2_with fail
          exact ⟨rfl, rfl, hF4.trans hf5⟩
        | true =>
          rw [h3, if_pos rfl] at hr4
          injection hr4 with hr4
          subst hr4
          have H3 := Lib.hid h3
          clear h3
          go_wp2_with fail
          refine (ended_ok (ndk 27 (bt []) [x]) ⟨some ⟨N.heap.size, 0, none⟩, 1, none, 0, none, 0, none, 0⟩ a4 H3.out).mono ?_
          rintro en w5 ⟨rfl, hf5, a5⟩
          have hD5 := fr_pb hD4 hf5 (by omega)
          have hy5 := hy4.fr hf5 (fun k hk => by simp at hk; subst hk; omega)
          have hF5 := hF4.trans hf5
          have c0 := hD5.cell 0 rfl
          have c1 := hD5.cell 1 rfl
          have c2 := hD5.cell 2 rfl
          have c3 := hD5.cell 3 rfl
          have c4 := hD5.cell 4 rfl
          have c5 := hD5.cell 5 rfl
          have c6 := hD5.cell 6 rfl
          have cz0 := hD5.frozen 0
          have cz1 := hD5.frozen 1
          have cz2 := hD5.frozen 2
          have cz3 := hD5.frozen 3
          have cz4 := hD5.frozen 4
          have cz5 := hD5.frozen 5
          have cz6 := hD5.frozen 6
          go_wp2_with fail
          refine bodyPost_ret (results_node (x := ndk 27 (bt []) [x]) (hd := ⟨some ⟨N.heap.size, 0, none⟩, 1, none, 0, none, 0, none, 0⟩) rfl _ _ w.heap.size rfl (hD5.node _ _ _ _ _ _ _)) rfl ?_
          exact Nd1.fin hAt hF5 a5 hD5.lt hy5
      | true =>
        cases hw : isW X.ws k (bt [61]) with
        | false =>
          rw [hw] at hp
          have HW := Lib.hid hw
          clear hw
          go_wp2_with fail
          refine (has_no a HW.out).mono ?_
          rintro en w2 ⟨rfl, hf2, a2⟩
          have hz2 := hf2.size
          have hG2 := fr_pb hG hf2 (by omega)
          have hD2 := fr_pb hD hf2 (by omega)
          have hx2 := hx.fr hf2 (fun k hk => by simp at hk; subst hk; omega)
          have hF2 := hF.trans hf2
          have d0 := hG2.cell 0 rfl
          have d1 := hG2.cell 1 rfl
          have d2 := hG2.cell 2 rfl
          have d3 := hG2.cell 3 rfl
          have d4 := hG2.cell 4 rfl
          have d5 := hG2.cell 5 rfl
          have d6 := hG2.cell 6 rfl
          have dz0 := hG2.frozen 0
          have dz1 := hG2.frozen 1
          have dz2 := hG2.frozen 2
          have dz3 := hG2.frozen 3
          have dz4 := hG2.frozen 4
          have dz5 := hG2.frozen 5
          have dz6 := hG2.frozen 6
          have hr4 : endedW X.ws (ndk 27 (bt []) [x]) k = some r := hp
          unfold endedW at hr4
          have hN4 : Fr [] w2 (w2.alloc (.cells (ndCells x hd) 46)) := (Fr.refl _ _).alloc _
          have hR4 : Blk (w2.alloc (.cells (ndCells x hd) 46)) w2.heap.size 46 (ndCells x hd) := Blk.new _ _ _ _ rfl
          have hD4 := hD2.fr hN4 (by simp)
          have hy4 := NdH.sub_ (k := 27) (t := bt []) (by omega) (LN.one hR4 (by have := hF2.size; omega) (hx2.fr0 hN4))
          have a4 := a2.fr0 hN4
          have hF4 := hF2.trans (hN4.mono (by simp))
          cases h3 : isW X.ws k (bt [59]) with
          | false =>
            rw [h3, if_neg (by simp)] at hr4
            injection hr4 with hr4
            subst hr4
            have H3 := Lib.hid h3
            clear h3
            go_wp2_with fail
            refine (ended_bad (ndk 27 (bt []) [x]) ⟨some ⟨w2.heap.size, 0, none⟩, 1, none, 0, none, 0, none, 0⟩ a4 H3.out).mono ?_
            rintro en w5 ⟨rfl, hf5⟩
            go_wp2_with fail
            exact ⟨rfl, rfl, hF4.trans hf5⟩
          | true =>
            rw [h3, if_pos rfl] at hr4
            injection hr4 with hr4
            subst hr4
            have H3 := Lib.hid h3
            clear h3
            go_wp2_with fail
            refine (ended_ok (ndk 27 (bt []) [x]) ⟨some ⟨w2.heap.size, 0, none⟩, 1, none, 0, none, 0, none, 0⟩ a4 H3.out).mono ?_
            rintro en w5 ⟨rfl, hf5, a5⟩
            have hD5 := fr_pb hD4 hf5 (by omega)
            have hy5 := hy4.fr hf5 (fun k hk => by simp at hk; subst hk; omega)
            have hF5 := hF4.trans hf5
            have c0 := hD5.cell 0 rfl
            have c1 := hD5.cell 1 rfl
            have c2 := hD5.cell 2 rfl
            have c3 := hD5.cell 3 rfl
            have c4 := hD5.cell 4 rfl
            have c5 := hD5.cell 5 rfl
            have c6 := hD5.cell 6 rfl
            have cz0 := hD5.frozen 0
            have cz1 := hD5.frozen 1
            have cz2 := hD5.frozen 2
            have cz3 := hD5.frozen 3
            have cz4 := hD5.frozen 4
            have cz5 := hD5.frozen 5
            have cz6 := hD5.frozen 6
            go_wp2_with fail
            refine bodyPost_ret (results_node (x := ndk 27 (bt []) [x]) (hd := ⟨some ⟨w2.heap.size, 0, none⟩, 1, none, 0, none, 0, none, 0⟩) rfl _ _ w.heap.size rfl (hD5.node _ _ _ _ _ _ _)) rfl ?_
            exact Nd1.fin hAt hF5 a5 hD5.lt hy5
        | true =>
          rw [hw] at hp
          have hp : (andW (P X.ws n .expr (k + 1)) fun m _ j2 => endedW X.ws (ndk 16 (bt []) (x.subs.take 2 ++ [hd1 m])) j2) = some r := hp
          have HW := Lib.hid hw
          clear hw
          cases hq : P X.ws n .expr (k + 1) with
          | none => rw [hq] at hp; cases hp
          | some q =>
            rw [hq] at hp
            have HE := Lib.hid (HX.out q (k + 1) hq)
            clear hq
            go_wp2_with fail
            refine (has_ok a HW.out).mono ?_
            rintro en w2 ⟨rfl, hf2, a2⟩
            have hz2 := hf2.size
            have hG2 := fr_pb hG hf2 (by omega)
            have hD2 := fr_pb hD hf2 (by omega)
            have hx2 := hx.fr hf2 (fun k hk => by simp at hk; subst hk; omega)
            have hF2 := hF.trans hf2
            have h2 := h2.out (by simp)
            obtain ⟨s0, s1, hss⟩ := two_of h2
            have g3 : w2.cell? ⟨g, 3, none⟩ = some (.slice hd.As 2 hd.cs) := by rw [← h2]; exact hG2.cell 3 rfl
            have hsub := hx2.subs
            obtain ⟨ms, hms⟩ := hsub.pos
            rw [hms, hss] at hsub
            rw [hss] at hp
            obtain ⟨bs, off, hA, hbs, hat⟩ := hsub.2.2 (by simp)
            obtain ⟨e0, n0, o0⟩ := hat 0 s0 rfl
            obtain ⟨e1, n1, o1⟩ := hat 1 s1 rfl
            have hy0 : NdH (fun b => b ≤ w.heap.size) ms w2 e0 s0 := ⟨o0.1, o0.2.1, o0.2.2.1, o0.2.2.2.1, o0.2.2.2.2⟩
            have hy1 : NdH (fun b => b ≤ w.heap.size) ms w2 e1 s1 := ⟨o1.1, o1.2.1, o1.2.2.1, o1.2.2.2.1, o1.2.2.2.2⟩
            rw [Nat.zero_mul, Nat.add_zero] at n0
            rw [Nat.one_mul] at n1
            rw [hA] at g3
            have hb1 : bs ∉ [X.pb, w.heap.size] := by simp; omega
            have hb2 : g ∉ [X.pb, w.heap.size] := by simp; omega
            clear o0 o1 hat hA hsub hss h2 HX hG hD hx HG
            go_wp2_with fail
            refine wp_region_held_drew (S := fun w' => Fr [X.pb, w.heap.size] w2 w') (by kernel_rfl) ((Fr.refl _ _).drew) (fun hHeld => ?_)
            refine wpAnyH_take (i := 0) (v := X.p) rfl (by kernel_rfl) (by kernel_rfl) (by kernel_rfl) (fun _ _ _ h => h) (Or.inl ⟨by rfl, fun w hSw => ?_⟩) (by assumption) ?_
            · (try dsimp only at hSw); go_simp
            try simp only [Act.put, List.setIfInBounds_toArray, List.set_cons_zero, List.set_cons_succ]
            refine wpAnyH_take (i := 1) (v := ?_) rfl (by kernel_rfl) (by kernel_rfl) (by kernel_rfl) (fun _ _ _ h => h) (Or.inl ⟨by rfl, fun w hSw => ?_⟩) (by assumption) ?_
            rotate_left 1
            · (try dsimp only at hSw)
              go_simp
              try with_reducible rfl
            try simp only [Act.put, List.setIfInBounds_toArray, List.set_cons_zero, List.set_cons_succ]
            refine wpAnyH_take (i := 2) (v := ?_) rfl (by kernel_rfl) (by kernel_rfl) (by kernel_rfl) (fun _ _ _ h => h) (Or.inl ⟨by rfl, fun w hSw => ?_⟩) (by assumption) ?_
            rotate_left 1
            · (try dsimp only at hSw)
              have z3 := hSw.cell g3 hb2
              go_simp
              try with_reducible rfl
            try simp only [Act.put, List.setIfInBounds_toArray, List.set_cons_zero, List.set_cons_succ]
            refine wpAnyH_take (i := 3) (v := ?_) rfl (by kernel_rfl) (by kernel_rfl) (by kernel_rfl) (fun _ _ _ h => h) (Or.inl ⟨by rfl, fun w hSw => ?_⟩) (by assumption) ?_
            rotate_left 1
            · (try dsimp only at hSw)
              go_simp
              try with_reducible rfl
            try simp only [Act.put, List.setIfInBounds_toArray, List.set_cons_zero, List.set_cons_succ]
            refine wpAnyH_take (i := 4) (v := ?_) rfl (by kernel_rfl) (by kernel_rfl) (by kernel_rfl) (fun _ _ _ h => h) (Or.inl ⟨by rfl, fun w hSw => ?_⟩) (by assumption) ?_
            rotate_left 1
            · (try dsimp only at hSw)
              have z0 := hSw.cell n0.c0 hb1
              have z1 := hSw.cell n0.c1 hb1
              have z2 := hSw.cell n0.c2 hb1
              have z3 := hSw.cell n0.c3 hb1
              have z4 := hSw.cell n0.c4 hb1
              have z5 := hSw.cell n0.c5 hb1
              have z6 := hSw.cell n0.c6 hb1
              go_simp
              try with_reducible rfl
            try simp only [Act.put, List.setIfInBounds_toArray, List.set_cons_zero, List.set_cons_succ]
            refine wpAnyH_take (i := 5) (v := ?_) rfl (by kernel_rfl) (by kernel_rfl) (by kernel_rfl) (fun _ _ _ h => h) (Or.inl ⟨by rfl, fun w hSw => ?_⟩) (by assumption) ?_
            rotate_left 1
            · (try dsimp only at hSw)
              go_simp
              try with_reducible rfl
            try simp only [Act.put, List.setIfInBounds_toArray, List.set_cons_zero, List.set_cons_succ]
            refine wpAnyH_take (i := 6) (v := ?_) rfl (by kernel_rfl) (by kernel_rfl) (by kernel_rfl) (fun _ _ _ h => h) (Or.inl ⟨by rfl, fun w hSw => ?_⟩) (by assumption) ?_
            rotate_left 1
            · (try dsimp only at hSw)
              have z3 := hSw.cell g3 hb2
              go_simp
              try with_reducible rfl
            try simp only [Act.put, List.setIfInBounds_toArray, List.set_cons_zero, List.set_cons_succ]
            refine wpAnyH_take (i := 7) (v := ?_) rfl (by kernel_rfl) (by kernel_rfl) (by kernel_rfl) (fun _ _ _ h => h) (Or.inl ⟨by rfl, fun w hSw => ?_⟩) (by assumption) ?_
            rotate_left 1
            · (try dsimp only at hSw)
              go_simp
              try with_reducible rfl
            try simp only [Act.put, List.setIfInBounds_toArray, List.set_cons_zero, List.set_cons_succ]
            refine wpAnyH_take (i := 8) (v := ?_) rfl (by kernel_rfl) (by kernel_rfl) (by kernel_rfl) (fun _ _ _ h => h) (Or.inl ⟨by rfl, fun w hSw => ?_⟩) (by assumption) ?_
            rotate_left 1
            · (try dsimp only at hSw)
              have z0 := hSw.cell n1.c0 hb1
              have z1 := hSw.cell n1.c1 hb1
              have z2 := hSw.cell n1.c2 hb1
              have z3 := hSw.cell n1.c3 hb1
              have z4 := hSw.cell n1.c4 hb1
              have z5 := hSw.cell n1.c5 hb1
              have z6 := hSw.cell n1.c6 hb1
              go_simp
              try with_reducible rfl
            try simp only [Act.put, List.setIfInBounds_toArray, List.set_cons_zero, List.set_cons_succ]
            refine wpAnyH_take (i := 9) (v := X.p) rfl (by kernel_rfl) (by kernel_rfl) (by kernel_rfl) (fun _ _ _ h => h) (Or.inl ⟨by rfl, fun w hSw => ?_⟩) (by assumption) ?_
            · (try dsimp only at hSw); go_simp
            try simp only [Act.put, List.setIfInBounds_toArray, List.set_cons_zero, List.set_cons_succ]
            refine wpAnyH_ready (rs := [10]) (by kernel_rfl) (by simp) ?_
            refine AllReadyH.cons rfl (fun K hK => ?_) AllReadyH.nil
            go_simp
            refine (HE.out _ (a2.fr0 frx)).mono ?_
            intro en w3 hp3
            cases q with
            | bad k2 =>
              obtain ⟨rfl, hf3⟩ := hp3
              have hp : some (Out.bad k2) = some r := hp
              injection hp with hp
              subst hp
              exact ⟨rfl, rfl, hF2.trans (Fr.trans frx hf3)⟩
            | ok l2 b2 k2 =>
              obtain ⟨hdy, ny, rfl, hy, hf3, a3⟩ := hp3
              have hr4 : endedW X.ws (ndk 16 (bt []) [s0, s1, hd1 l2]) k2 = some r := hp
              generalize hd1 l2 = y at *
              unfold endedW at hr4
              have hf23 : Fr [X.pb] w2 w3 := Fr.trans frx hf3
              have hy : NdH (Bel w2) ny w3 hdy y := hy
              have hz3 := hf23.size
              clear hf3 hp
              refine hK.out _ _ (Fr.mono hf23 (by simp)) (fun hHeld2 => ?_)
              clear hK K hHeld
              have hHeld := hHeld2
              clear hHeld2
              try simp only [Act.put, List.setIfInBounds_toArray, List.set_cons_zero, List.set_cons_succ]
              refine wpAnyH_ready (rs := [11]) (by kernel_rfl) (by simp) ?_
              refine AllReadyH.cons rfl (fun K hK => ?_) AllReadyH.nil
              go_simp
              refine hK.out _ _ (hHeld.alloc _) (fun hHeld2 => ?_)
              clear hK K hHeld
              have hHeld := hHeld2
              clear hHeld2
              try simp only [Act.put, List.setIfInBounds_toArray, List.set_cons_zero, List.set_cons_succ]
              refine wpAnyH_ready (rs := [12]) (by kernel_rfl) (by simp) ?_
              refine AllReadyH.cons rfl (fun K hK => ?_) AllReadyH.nil
              go_simp
              refine hK.out _ _ (hHeld) (fun hHeld2 => ?_)
              clear hK K hHeld
              have hHeld := hHeld2
              clear hHeld2
              try simp only [Act.put, List.setIfInBounds_toArray, List.set_cons_zero, List.set_cons_succ]
              have hN4 : Fr [] w3 (w3.alloc (.cells (nd3 s0 e0 s1 e1 y hdy) 46)) := (Fr.refl _ _).alloc _
              have hR4 : Blk (w3.alloc (.cells (nd3 s0 e0 s1 e1 y hdy) 46)) w3.heap.size 46 (nd3 s0 e0 s1 e1 y hdy) := Blk.new _ _ _ _ rfl
              have hD4 := (fr_pb hD2 hf23 (by omega)).fr hN4 (by simp)
              have a4 := a3.fr0 hN4
              have hF4 := (hF2.trans hf23).trans (hN4.mono (by simp))
              have hh0 := ((hy0.fr hf23 (fun k hk => by simp at hk; subst hk; omega)).fr0 hN4).mono (Nat.le_max_left ms ny)
              have hh1 := ((hy1.fr hf23 (fun k hk => by simp at hk; subst hk; omega)).fr0 hN4).mono (Nat.le_max_left ms ny)
              have hh2 : NdH (fun b => b ≤ w.heap.size) (max ms ny) _ hdy y := ((hy.sub fun k _ hk => by show k < w2.heap.size; omega).fr0 hN4).mono (Nat.le_max_right ms ny)
              have hy4 := NdH.sub_ (S := fun b => b ≤ w.heap.size) (n := max ms ny + 1) (k := 16) (t := bt []) (by omega) (LN.flat (l := [s0, s1, y]) (hs := [e0, e1, hdy]) hR4 rfl (by show ¬ w3.heap.size ≤ w.heap.size; omega) (by unfold maxLen; simp) (fun k z hz q1 q2 => by
                match k, q1, q2 with
                | 0, q1, q2 => simp at q1 q2; subst q1 q2; exact hh0
                | 1, q1, q2 => simp at q1 q2; subst q1 q2; exact hh1
                | 2, q1, q2 => simp at q1 q2; subst q1 q2; exact hh2))
              cases h3 : isW X.ws k2 (bt [59]) with
              | false =>
                rw [h3, if_neg (by simp)] at hr4
                injection hr4 with hr4
                subst hr4
                have H3 := Lib.hid h3
                clear h3
                refine wpAnyH_ready (rs := [13]) (by kernel_rfl) (by simp) ?_
                refine AllReadyH.cons rfl (fun K hK => ?_) AllReadyH.nil
                go_simp
                refine (ended_bad (ndk 16 (bt []) [s0, s1, y]) ⟨some ⟨w3.heap.size, 0, none⟩, 3, none, 0, none, 0, none, 0⟩ a4 H3.out).mono ?_
                rintro en w5 ⟨rfl, hf5⟩
                exact ⟨rfl, rfl, hF4.trans hf5⟩
              | true =>
                rw [h3, if_pos rfl] at hr4
                injection hr4 with hr4
                subst hr4
                have H3 := Lib.hid h3
                clear h3
                refine wpAnyH_ready (rs := [13]) (by kernel_rfl) (by simp) ?_
                refine AllReadyH.cons rfl (fun K hK => ?_) AllReadyH.nil
                go_simp
                refine (ended_ok (ndk 16 (bt []) [s0, s1, y]) ⟨some ⟨w3.heap.size, 0, none⟩, 3, none, 0, none, 0, none, 0⟩ a4 H3.out).mono ?_
                rintro en w5 ⟨rfl, hf5, a5⟩
                have hD5 := fr_pb hD4 hf5 (by omega)
                have hy5 := hy4.fr hf5 (fun k hk => by simp at hk; subst hk; omega)
                have hF5 := hF4.trans hf5
                have c0 := hD5.cell 0 rfl
                have c1 := hD5.cell 1 rfl
                have c2 := hD5.cell 2 rfl
                have c3 := hD5.cell 3 rfl
                have c4 := hD5.cell 4 rfl
                have c5 := hD5.cell 5 rfl
                have c6 := hD5.cell 6 rfl
                have cz0 := hD5.frozen 0
                have cz1 := hD5.frozen 1
                have cz2 := hD5.frozen 2
                have cz3 := hD5.frozen 3
                have cz4 := hD5.frozen 4
                have cz5 := hD5.frozen 5
                have cz6 := hD5.frozen 6
                refine hK.out _ _ (hHeld.trans (hf5.mono (by simp))) (fun hHeld2 => ?_)
                clear hK K hHeld
                have hHeld := hHeld2
                clear hHeld2
                try simp only [Act.put, List.setIfInBounds_toArray, List.set_cons_zero, List.set_cons_succ]
                refine wpAnyH_ready (rs := [14]) (by kernel_rfl) (by simp) ?_
                refine AllReadyH.cons rfl (fun K hK => ?_) AllReadyH.nil
                go_simp
                refine hK.out _ _ (fr_node hHeld (.inl (by simp)) _ _ _ _ _ _ _) (fun hHeld2 => ?_)
                clear hK K hHeld
                have hHeld := hHeld2
                clear hHeld2
                try simp only [Act.put, List.setIfInBounds_toArray, List.set_cons_zero, List.set_cons_succ]
                refine wpAnyH_done (by kernel_rfl) ?_ _
                go_wp2_with fail
                refine bodyPost_ret (results_node (x := ndk 16 (bt []) [s0, s1, y]) (hd := ⟨some ⟨w3.heap.size, 0, none⟩, 3, none, 0, none, 0, none, 0⟩) rfl _ _ w.heap.size rfl (hD5.node _ _ _ _ _ _ _)) rfl ?_
                exact Nd1.fin hAt hF5 a5 hD5.lt hy5
end
end

/- atom of the parser (printed by gen/atom.py). -/
section
open Go.RowKit
set_option linter.unusedSimpArgs false
section
variable {X : Px} {i j : Nat}
def NumOk (ws : List Wd) : Prop := ∀ i t, numW ws i = some t → t.size ≤ 1000000 ∧ Lib.parseIntB 64 t.data.toList = .ok (digits t.data.toList : Int) ∧ (digits t.data.toList : Int) ≤ 9223372036854775807
theorem str_l {s : ByteArray} {l : List UInt8} : (s.toList == l) = decide (s = bt l) := str_lit s l
set_option maxRecDepth 20000 in
set_option maxHeartbeats 6400000 in
theorem atom_step {n : Nat} {r : Out} (hnum : NumOk X.ws) (w : World) (h : X.At w i) (hr : P X.ws (n + 1) .atom i = some r)
    (hcl : ∀ kk q k, (0 ≤ kk ∧ kk ≤ 255) → P X.ws n (.called kk) k = some q → ∀ w', X.At w' k → Calls Tryz.prog 260 #[X.p, .int .u8 kk] w' (X.R1 w' q))
    (hun : ∀ q k, P X.ws n .unit k = some q → ∀ w', X.At w' k → Calls Tryz.prog 261 #[X.p] w' (X.R1 w' q))
    (hbl : ∀ q k, P X.ws n .block k = some q → ∀ w', X.At w' k → Calls Tryz.prog 188 #[X.p] w' (X.RL w' q)) :
    Calls Tryz.prog 258 #[X.p] w (X.R1 w r) := by
  rw [P] at hr
  obtain ⟨V, hV⟩ : ∃ V, V = w.alloc (.cells zeroN 46) := ⟨_, rfl⟩
  have hf0 : Fr [] w V := by rw [hV]; exact frx
  have hB1 : Blk V w.heap.size 46 zeroN := by rw [hV]; exact Blk.new _ _ _ _ rfl
  have hpl := X.lt h
  have hz := hf0.size
  have hVz : w.heap.size < V.heap.size := hB1.lt
  have hV0 := h.fr0 hf0
  have hAt := h
  have HV := Lib.hid hV.symm
  clear hV
  have HCL := Lib.hid hcl
  have HUN := Lib.hid hun
  have HBL := Lib.hid hbl
  have HNUM := Lib.hid hnum
  have HPK := Lib.hid (peek_any V hV0 X.hm)
  have HE1 := Lib.hid (numW_eq X.ws i)
  have HE2 := Lib.hid (nameW_eq X.ws i)
  clear hcl hun hbl hnum
  generalize kindAt X.ws i = kd at *
  generalize textAt X.ws i = tx at *
  generalize placeAt X.ws X.e i = pt at *
  go_enter Tryz.func258, Tryz.ntmps258
  go_wp2_with fail
  rw [HV.out]
  refine HPK.out.mono ?_
  rintro en w1 ⟨rfl, hf1⟩
  clear HPK
  obtain ⟨W, hW⟩ : ∃ W, W = w1.alloc (.cells #[.int .u8 kd, .string tx, .int .i64 pt] 183) := ⟨_, rfl⟩
  have hW1 : Fr [] w1 W := by rw [hW]; exact (Fr.refl _ _).alloc _
  have hG : Blk W w1.heap.size 183 #[.int .u8 kd, .string tx, .int .i64 pt] := by rw [hW]; exact Blk.new _ _ _ _ rfl
  obtain ⟨g, hg⟩ : ∃ g, g = w1.heap.size := ⟨_, rfl⟩
  rw [← hg] at hG
  have hz1 := hf1.size
  have hgw : w.heap.size < g := by omega
  have hgN := hG.lt
  have HN := Lib.hid hW.symm
  have HG := Lib.hid hg
  have hD := (hB1.fr hf1 (by simp)).fr hW1 (by simp)
  have a := (hV0.fr0 hf1).fr0 hW1
  have hF : Fr [X.pb] w W := ((hf0.trans hf1).trans hW1).mono (by simp)
  have hpg : g ≠ X.pb := by omega
  have k0 : W.cell? ⟨g, 0, none⟩ = some (.int .u8 kd) := hG.cell 0 rfl
  have k1 : W.cell? ⟨g, 1, none⟩ = some (.string tx) := hG.cell 1 rfl
  clear hW hg hf1 hW1 hB1 hV0 hf0
  go_upto_region 2 with fail
  rw [← HG.out, HN.out]
  clear HN HG
  by_cases h2 : kd = 2
  · skip
    subst h2
    have hN : numW X.ws i = some tx := by rw [HE1.out, if_pos rfl]
    rw [hN] at hr
    have hr : some (Out.ok [.mk 1 (bt []) (digits tx.data.toList) [] [] [] []] false (i + 1)) = some r := hr
    injection hr with hr
    subst hr
    have hlt := numW_lt hN
    have hle := a.le
    obtain ⟨hs1, hs2, hs3⟩ := HNUM.out i tx hN
    generalize digits tx.data.toList = dg at *
    have p1 : W.cell? ⟨X.pb, 1, none⟩ = some (.int .i64 i) := a.blk.cell 1 rfl
    have z1 := a.blk.frozen 1
    have a3 := a.set (by omega)
    have hf3 : Fr [X.pb] W (W.setCell ⟨X.pb, 1, none⟩ (.int .i64 ((i : Int) + 1))) := (Fr.refl _ _).setCell (.inl (by simp)) _
    have k3 := hf3.cell k1 (by simp; omega)
    have hD3 := fr_pb hD hf3 (by omega)
    have hF3 := hF.trans hf3
    have hml := X.hm
    have HS2 := Lib.hid hs2
    clear hN HE1 HE2 HNUM hs2
    go_wp2_with fail
    refine (Tryz.strconv_ParseInt_10_at64_ok tx (by omega) dg HS2.out _).mono ?_
    rintro e w4 ⟨rfl, hw⟩
    have hf4 : Fr [] (W.setCell ⟨X.pb, 1, none⟩ (.int .i64 ((i : Int) + 1))) w4 := by
      rcases hw with rfl | ⟨t, rfl⟩
      · exact Fr.refl _ _
      · exact Fr.of_below (Lib.bytesWorld_below _ _ _)
    clear hw
    have hD4 := hD3.fr hf4 (by simp)
    have a4 := a3.fr0 hf4
    have hF4 := hF3.trans (hf4.mono (by simp))
    have c0 := hD4.cell 0 rfl
    have c1 := hD4.cell 1 rfl
    have c2 := hD4.cell 2 rfl
    have c3 := hD4.cell 3 rfl
    have c4 := hD4.cell 4 rfl
    have c5 := hD4.cell 5 rfl
    have c6 := hD4.cell 6 rfl
    have cz0 := hD4.frozen 0
    have cz1 := hD4.frozen 1
    have cz2 := hD4.frozen 2
    have cz3 := hD4.frozen 3
    have cz4 := hD4.frozen 4
    have cz5 := hD4.frozen 5
    have cz6 := hD4.frozen 6
    go_wp2_with fail
    refine bodyPost_ret (results_node (x := .mk 1 (bt []) dg [] [] [] []) (hd := ⟨none, 0, none, 0, none, 0, none, 0⟩) rfl _ _ w.heap.size rfl (hD4.node _ _ _ _ _ _ _)) rfl ?_
    exact Nd1.fin hAt hF4 a4 hD4.lt (NdH.leaf (by omega) (by omega) _ 0 _)
  have hN : numW X.ws i = none := by rw [HE1.out, if_neg h2]
  rw [hN] at hr
  clear hN HE1 HNUM
  by_cases h1 : kd = 1
  · skip
    subst h1
    have hN : nameW X.ws i = some tx := by rw [HE2.out, if_pos rfl]
    rw [hN] at hr
    have hr : (if isW X.ws (i + 1) (bt [40]) then P X.ws n (.called 5) i else some (Out.ok [ndk 2 tx []] false (i + 1))) = some r := hr
    have hlt := nameW_lt hN
    have hml := X.hm
    obtain ⟨b0, off, hA, v0, v1, v2⟩ := a.rd.at_ (i := i + 1) (by omega)
    have p0 : W.cell? ⟨X.pb, 0, none⟩ = some (.slice X.A (X.ws.length + 1) X.c) := a.blk.cell 0 rfl
    have p1 : W.cell? ⟨X.pb, 1, none⟩ = some (.int .i64 i) := a.blk.cell 1 rfl
    rw [hA] at p0
    have hq := isW_eq X.ws (i + 1) (bt [40])
    clear hN HE2
    generalize kindAt X.ws (i + 1) = kd1 at *
    generalize textAt X.ws (i + 1) = tx1 at *
    generalize placeAt X.ws X.e (i + 1) = pt1 at *
    have hi1 : (i : Int) + 1 < (X.ws.length : Int) + 1 := by omega
    have hi2 : (0 : Int) ≤ (i : Int) + 1 := by omega
    have HQ := Lib.hid hq
    have hwr : Hid (IntKind.i64.wrap ((i : Int) + 1) = (i : Int) + 1) := IntWalk.i64_in _ (by omega)
    clear hq
    go_wp2_with fail
    refine wp_region_held_drew (S := fun w' => Fr [] W w') (by kernel_rfl) ((Fr.refl _ _).drew) (fun hHeld => ?_)
    refine wpAnyH_take (i := 0) (v := X.p) rfl (by kernel_rfl) (by kernel_rfl) (by kernel_rfl) (fun _ _ _ h => h) (Or.inl ⟨by rfl, fun w hSw => ?_⟩) (by assumption) ?_
    · (try dsimp only at hSw); go_simp
    try simp only [Act.put, List.setIfInBounds_toArray, List.set_cons_zero, List.set_cons_succ]
    refine wpAnyH_take (i := 1) (v := ?_) rfl (by kernel_rfl) (by kernel_rfl) (by kernel_rfl) (fun _ _ _ h => h) (Or.inl ⟨by rfl, fun w hSw => ?_⟩) (by assumption) ?_
    rotate_left 1
    · (try dsimp only at hSw)
      have z0 := hSw.cell p0 (by simp)
      go_simp
      try with_reducible rfl
    try simp only [Act.put, List.setIfInBounds_toArray, List.set_cons_zero, List.set_cons_succ]
    refine wpAnyH_take (i := 2) (v := ?_) rfl (by kernel_rfl) (by kernel_rfl) (by kernel_rfl) (fun _ _ _ h => h) (Or.inl ⟨by rfl, fun w hSw => ?_⟩) (by assumption) ?_
    rotate_left 1
    · (try dsimp only at hSw)
      go_simp
      try with_reducible rfl
    try simp only [Act.put, List.setIfInBounds_toArray, List.set_cons_zero, List.set_cons_succ]
    refine wpAnyH_take (i := 3) (v := ?_) rfl (by kernel_rfl) (by kernel_rfl) (by kernel_rfl) (fun _ _ _ h => h) (Or.inl ⟨by rfl, fun w hSw => ?_⟩) (by assumption) ?_
    rotate_left 1
    · (try dsimp only at hSw)
      have z0 := hSw.cell p0 (by simp)
      go_simp
      try with_reducible rfl
    try simp only [Act.put, List.setIfInBounds_toArray, List.set_cons_zero, List.set_cons_succ]
    refine wpAnyH_take (i := 4) (v := X.p) rfl (by kernel_rfl) (by kernel_rfl) (by kernel_rfl) (fun _ _ _ h => h) (Or.inl ⟨by rfl, fun w hSw => ?_⟩) (by assumption) ?_
    · (try dsimp only at hSw); go_simp
    try simp only [Act.put, List.setIfInBounds_toArray, List.set_cons_zero, List.set_cons_succ]
    refine wpAnyH_take (i := 5) (v := ?_) rfl (by kernel_rfl) (by kernel_rfl) (by kernel_rfl) (fun _ _ _ h => h) (Or.inl ⟨by rfl, fun w hSw => ?_⟩) (by assumption) ?_
    rotate_left 1
    · (try dsimp only at hSw)
      have z1 := hSw.cell p1 (by simp)
      go_simp
      try with_reducible rfl
    try simp only [Act.put, List.setIfInBounds_toArray, List.set_cons_zero, List.set_cons_succ]
    refine wpAnyH_take (i := 6) (v := ?_) rfl (by kernel_rfl) (by kernel_rfl) (by kernel_rfl) (fun _ _ _ h => h) (Or.inl ⟨by rfl, fun w hSw => ?_⟩) (by assumption) ?_
    rotate_left 1
    · (try dsimp only at hSw)
      go_simp
      try with_reducible rfl
    try simp only [Act.put, List.setIfInBounds_toArray, List.set_cons_zero, List.set_cons_succ]
    refine wpAnyH_take (i := 7) (v := ?_) rfl (by kernel_rfl) (by kernel_rfl) (by kernel_rfl) (fun _ _ _ h => h) (Or.inl ⟨by rfl, fun w hSw => ?_⟩) (by assumption) ?_
    rotate_left 1
    · (try dsimp only at hSw)
      have z1 := hSw.cell p1 (by simp)
      go_simp
      try with_reducible rfl
    try simp only [Act.put, List.setIfInBounds_toArray, List.set_cons_zero, List.set_cons_succ]
    refine wpAnyH_take (i := 8) (v := .int .i64 ((i : Int) + 1)) rfl (by kernel_rfl) (by kernel_rfl) (by kernel_rfl) (fun _ _ _ h => h) (Or.inl ⟨by rfl, fun w hSw => ?_⟩) (by assumption) ?_
    · (try dsimp only at hSw)
      go_simp
      rw [hwr.out]
    try simp only [Act.put, List.setIfInBounds_toArray, List.set_cons_zero, List.set_cons_succ]
    refine wpAnyH_take (i := 9) (v := .pointer (some ⟨b0, off + (i + 1) * 3, none⟩)) rfl (by kernel_rfl) (by kernel_rfl) (by kernel_rfl) (fun _ _ _ h => h) (Or.inl ⟨by rfl, fun w hSw => ?_⟩) (by assumption) ?_
    · (try dsimp only at hSw)
      have hnat : ((i : Int) + 1).toNat = i + 1 := by omega
      go_simp
    try simp only [Act.put, List.setIfInBounds_toArray, List.set_cons_zero, List.set_cons_succ]
    refine wpAnyH_take (i := 10) (v := ?_) rfl (by kernel_rfl) (by kernel_rfl) (by kernel_rfl) (fun _ _ _ h => h) (Or.inl ⟨by rfl, fun w hSw => ?_⟩) (by assumption) ?_
    rotate_left 1
    · (try dsimp only at hSw)
      have z0 := hSw.cell v0 (by simp)
      have z1 := hSw.cell v1 (by simp)
      have z2 := hSw.cell v2 (by simp)
      go_simp
      try with_reducible rfl
    try simp only [Act.put, List.setIfInBounds_toArray, List.set_cons_zero, List.set_cons_succ]
    refine wpAnyH_ready (rs := [11]) (by kernel_rfl) (by simp) ?_
    refine AllReadyH.cons rfl (fun K hK => ?_) AllReadyH.nil
    go_simp
    refine hK.out _ _ (hHeld.alloc _) (fun hHeld2 => ?_)
    clear hK K hHeld
    have hHeld := hHeld2
    clear hHeld2
    try simp only [Act.put, List.setIfInBounds_toArray, List.set_cons_zero, List.set_cons_succ]
    have hB6 : Blk (W.alloc (.cells #[.int .u8 0, .string ⟨#[]⟩, .int .i64 0] 183)) W.heap.size 183 #[.int .u8 0, .string ⟨#[]⟩, .int .i64 0] := Blk.new _ _ _ _ rfl
    have y0 := hB6.frozen 0
    have y1 := hB6.frozen 1
    have y2 := hB6.frozen 2
    refine wpAnyH_ready (rs := [12]) (by kernel_rfl) (by simp) ?_
    refine AllReadyH.cons rfl (fun K hK => ?_) AllReadyH.nil
    go_simp
    refine hK.out _ _ (frx) (fun hHeld2 => ?_)
    clear hK K hHeld
    have hHeld := hHeld2
    clear hHeld2
    try simp only [Act.put, List.setIfInBounds_toArray, List.set_cons_zero, List.set_cons_succ]
    refine wpAnyH_end (by kernel_rfl) (fun M hM => ?_) _
    have hf7 : Fr [] W M := by rw [hM]; exact hHeld
    have hB7 : Blk M W.heap.size 183 #[.int .u8 kd1, .string tx1, .int .i64 pt1] := by rw [hM]; exact Blk.drew (Blk.new _ _ _ _ rfl)
    have q0 : M.cell? ⟨W.heap.size, 0, none⟩ = some (.int .u8 kd1) := hB7.cell 0 rfl
    have q1 : M.cell? ⟨W.heap.size, 1, none⟩ = some (.string tx1) := hB7.cell 1 rfl
    have a7 := a.fr0 hf7
    have hD7 := hD.fr hf7 (by simp)
    have hF7 := hF.trans (hf7.mono (by simp))
    have k7 := hf7.cell k1 (by simp)
    have hz7 := hf7.size
    clear hG hB6 hB7 y0 y1 y2 v0 v1 v2 p0 p1 hHeld k0 k1 hM
    by_cases hk : kd1 = 3
    · subst hk
      by_cases hb : tx1 = bt [40]
      · have hs : (tx1.toList == [40]) = true := by rw [str_l]; simp [hb]
        rw [HQ.out] at hr
        rw [if_pos (by simp [hb])] at hr
        clear HQ hb
        go_wp2_with fail
        refine (HCL.out 5 r i (by omega) hr _ (a7.fr0 frx)).mono ?_
        intro en w5 hp5
        cases r with
        | bad k2 =>
          obtain ⟨rfl, hf5⟩ := hp5
          go_wp2_with fail
          exact ⟨rfl, rfl, (hF7).trans (Fr.trans frx hf5)⟩
        | ok l b k2 =>
          obtain ⟨hd, nn, rfl, hx, hf5, a5⟩ := hp5
          obtain ⟨x, hx0⟩ : ∃ x, x = hd1 l := ⟨_, rfl⟩
          rw [← hx0] at hx ⊢
          have HX0 := Lib.hid hx0
          clear hx0
          have hf5 : Fr [X.pb] M w5 := Fr.trans frx hf5
          have hD5 := fr_pb hD7 hf5 (by omega)
          have hF5 := (hF7).trans hf5
          have hz5 := hf5.size
          have c0 := hD5.cell 0 rfl
          have c1 := hD5.cell 1 rfl
          have c2 := hD5.cell 2 rfl
          have c3 := hD5.cell 3 rfl
          have c4 := hD5.cell 4 rfl
          have c5 := hD5.cell 5 rfl
          have c6 := hD5.cell 6 rfl
          have cz0 := hD5.frozen 0
          have cz1 := hD5.frozen 1
          have cz2 := hD5.frozen 2
          have cz3 := hD5.frozen 3
          have cz4 := hD5.frozen 4
          have cz5 := hD5.frozen 5
          have cz6 := hD5.frozen 6
          go_wp2_with fail
          refine bodyPost_ret (results_node rfl _ _ w.heap.size rfl (hD5.node _ _ _ _ _ _ _)) rfl ?_
          have hfin := Nd1.fin hAt hF5 a5 hD5.lt (hx.sub (S' := fun b => b ≤ w.heap.size) fun k _ hk => by
            have hlt5 : k < M.heap.size := by omega
            exact hlt5)
          have hx0 := HX0.out
          subst hx0
          exact hfin
      · have hs : (tx1.toList == [40]) = false := by rw [str_l]; simp [hb]
        rw [HQ.out] at hr
        rw [if_neg (by simp [hb])] at hr
        clear hb
        injection hr with hr
        subst hr
        have p1 : M.cell? ⟨X.pb, 1, none⟩ = some (.int .i64 i) := a7.blk.cell 1 rfl
        have z1 := a7.blk.frozen 1
        have a8 := a7.set (by omega)
        have hf8 : Fr [X.pb] M (M.setCell ⟨X.pb, 1, none⟩ (.int .i64 ((i : Int) + 1))) := (Fr.refl _ _).setCell (.inl (by simp)) _
        have k8 := hf8.cell k7 (by simp; omega)
        have hD8 := fr_pb hD7 hf8 (by omega)
        have hF8 := hF7.trans hf8
        have c0 := hD8.cell 0 rfl
        have c1 := hD8.cell 1 rfl
        have c2 := hD8.cell 2 rfl
        have c3 := hD8.cell 3 rfl
        have c4 := hD8.cell 4 rfl
        have c5 := hD8.cell 5 rfl
        have c6 := hD8.cell 6 rfl
        have cz0 := hD8.frozen 0
        have cz1 := hD8.frozen 1
        have cz2 := hD8.frozen 2
        have cz3 := hD8.frozen 3
        have cz4 := hD8.frozen 4
        have cz5 := hD8.frozen 5
        have cz6 := hD8.frozen 6
        go_wp2_with fail
        refine bodyPost_ret (results_node (x := ndk 2 tx []) (hd := ⟨none, 0, none, 0, none, 0, none, 0⟩) rfl _ _ w.heap.size rfl (hD8.node _ _ _ _ _ _ _)) rfl ?_
        exact Nd1.fin hAt hF8 a8 hD8.lt (NdH.leaf (by omega) (by omega) _ 0 _)
    · have hs : (kd1 == 3) = false := by simpa using hk
      have hb := hk
      clear hk
      rw [HQ.out] at hr
      rw [if_neg (by simp [hb])] at hr
      clear hb
      injection hr with hr
      subst hr
      have p1 : M.cell? ⟨X.pb, 1, none⟩ = some (.int .i64 i) := a7.blk.cell 1 rfl
      have z1 := a7.blk.frozen 1
      have a8 := a7.set (by omega)
      have hf8 : Fr [X.pb] M (M.setCell ⟨X.pb, 1, none⟩ (.int .i64 ((i : Int) + 1))) := (Fr.refl _ _).setCell (.inl (by simp)) _
      have k8 := hf8.cell k7 (by simp; omega)
      have hD8 := fr_pb hD7 hf8 (by omega)
      have hF8 := hF7.trans hf8
      have c0 := hD8.cell 0 rfl
      have c1 := hD8.cell 1 rfl
      have c2 := hD8.cell 2 rfl
      have c3 := hD8.cell 3 rfl
      have c4 := hD8.cell 4 rfl
      have c5 := hD8.cell 5 rfl
      have c6 := hD8.cell 6 rfl
      have cz0 := hD8.frozen 0
      have cz1 := hD8.frozen 1
      have cz2 := hD8.frozen 2
      have cz3 := hD8.frozen 3
      have cz4 := hD8.frozen 4
      have cz5 := hD8.frozen 5
      have cz6 := hD8.frozen 6
      go_wp2_with fail
      refine bodyPost_ret (results_node (x := ndk 2 tx []) (hd := ⟨none, 0, none, 0, none, 0, none, 0⟩) rfl _ _ w.heap.size rfl (hD8.node _ _ _ _ _ _ _)) rfl ?_
      exact Nd1.fin hAt hF8 a8 hD8.lt (NdH.leaf (by omega) (by omega) _ 0 _)
  have hN2 : nameW X.ws i = none := by rw [HE2.out, if_neg h1]
  rw [hN2] at hr
  simp only at hr
  have hq1 : (kd == 1) = false := by simpa using h1
  have hq2 : (kd == 2) = false := by simpa using h2
  clear hN2 HE2 h1 h2 hG k1
  cases hc0 : isW X.ws i (bt [40]) with
  | true =>
    rw [hc0, if_pos rfl] at hr
    have HC0 := Lib.hid hc0
    have hlt := isW_lt hc0
    clear hc0
    go_wp2_with fail
    refine (is_any (bt [40]) _ (a.fr0 frx) X.hm).mono ?_
    rw [HC0.out]
    rintro en w2 ⟨rfl, hf2⟩
    have hf2 : Fr [] W w2 := Fr.trans frx hf2
    have hz2 := hf2.size
    have a2 := a.fr0 hf2
    have hD2 := hD.fr hf2 (by simp)
    have hF2 := (hF).trans (hf2.mono (by simp))
    go_wp2_with fail
    refine (HUN.out r i hr _ (a2.fr0 frx)).mono ?_
    intro en w5 hp5
    cases r with
    | bad k2 =>
      obtain ⟨rfl, hf5⟩ := hp5
      go_wp2_with fail
      exact ⟨rfl, rfl, (hF2).trans (Fr.trans frx hf5)⟩
    | ok l b k2 =>
      obtain ⟨hd, nn, rfl, hx, hf5, a5⟩ := hp5
      obtain ⟨x, hx0⟩ : ∃ x, x = hd1 l := ⟨_, rfl⟩
      rw [← hx0] at hx ⊢
      have HX0 := Lib.hid hx0
      clear hx0
      have hf5 : Fr [X.pb] w2 w5 := Fr.trans frx hf5
      have hD5 := fr_pb hD2 hf5 (by omega)
      have hF5 := (hF2).trans hf5
      have hz5 := hf5.size
      have c0 := hD5.cell 0 rfl
      have c1 := hD5.cell 1 rfl
      have c2 := hD5.cell 2 rfl
      have c3 := hD5.cell 3 rfl
      have c4 := hD5.cell 4 rfl
      have c5 := hD5.cell 5 rfl
      have c6 := hD5.cell 6 rfl
      have cz0 := hD5.frozen 0
      have cz1 := hD5.frozen 1
      have cz2 := hD5.frozen 2
      have cz3 := hD5.frozen 3
      have cz4 := hD5.frozen 4
      have cz5 := hD5.frozen 5
      have cz6 := hD5.frozen 6
      go_wp2_with fail
      refine bodyPost_ret (results_node rfl _ _ w.heap.size rfl (hD5.node _ _ _ _ _ _ _)) rfl ?_
      have hfin := Nd1.fin hAt hF5 a5 hD5.lt (hx.sub (S' := fun b => b ≤ w.heap.size) fun k _ hk => by
        have hlt5 : k < w2.heap.size := by omega
        exact hlt5)
      have hx0 := HX0.out
      subst hx0
      exact hfin
  | false =>
    rw [hc0, if_neg (by simp)] at hr
    have HC0 := Lib.hid hc0
    clear hc0
    go_wp2_with fail
    refine (is_any (bt [40]) _ (a.fr0 frx) X.hm).mono ?_
    rw [HC0.out]
    rintro en wl0 ⟨rfl, fl0⟩
    have fl0 : Fr [] W wl0 := Fr.trans frx fl0
    have al0 := a.fr0 fl0
    have hDwl0 := hD.fr fl0 (by simp)
    have hFwl0 := (hF).trans (fl0.mono (by simp))
    have hzwl0 := fl0.size
    cases hc1 : isW X.ws i (bt [115, 112, 97, 119, 110]) with
    | true =>
      rw [hc1, if_pos rfl] at hr
      have HC1 := Lib.hid hc1
      have hlt := isW_lt hc1
      clear hc1
      go_wp2_with fail
      refine (has_ok (al0.fr0 frx) HC1.out).mono ?_
      rintro en w2 ⟨rfl, hf2, a2⟩
      have hf2 : Fr [X.pb] wl0 w2 := Fr.trans frx hf2
      have hz2 := hf2.size
      have hD2 := fr_pb hDwl0 hf2 (by omega)
      have hF2 := (hFwl0).trans hf2
      go_wp2_with fail
      refine (HCL.out 13 r (i + 1) (by omega) hr _ (a2.fr0 frx)).mono ?_
      intro en w5 hp5
      cases r with
      | bad k2 =>
        obtain ⟨rfl, hf5⟩ := hp5
        go_wp2_with fail
        exact ⟨rfl, rfl, (hF2).trans (Fr.trans frx hf5)⟩
      | ok l b k2 =>
        obtain ⟨hd, nn, rfl, hx, hf5, a5⟩ := hp5
        obtain ⟨x, hx0⟩ : ∃ x, x = hd1 l := ⟨_, rfl⟩
        rw [← hx0] at hx ⊢
        have HX0 := Lib.hid hx0
        clear hx0
        have hf5 : Fr [X.pb] w2 w5 := Fr.trans frx hf5
        have hD5 := fr_pb hD2 hf5 (by omega)
        have hF5 := (hF2).trans hf5
        have hz5 := hf5.size
        have c0 := hD5.cell 0 rfl
        have c1 := hD5.cell 1 rfl
        have c2 := hD5.cell 2 rfl
        have c3 := hD5.cell 3 rfl
        have c4 := hD5.cell 4 rfl
        have c5 := hD5.cell 5 rfl
        have c6 := hD5.cell 6 rfl
        have cz0 := hD5.frozen 0
        have cz1 := hD5.frozen 1
        have cz2 := hD5.frozen 2
        have cz3 := hD5.frozen 3
        have cz4 := hD5.frozen 4
        have cz5 := hD5.frozen 5
        have cz6 := hD5.frozen 6
        go_wp2_with fail
        refine bodyPost_ret (results_node rfl _ _ w.heap.size rfl (hD5.node _ _ _ _ _ _ _)) rfl ?_
        have hfin := Nd1.fin hAt hF5 a5 hD5.lt (hx.sub (S' := fun b => b ≤ w.heap.size) fun k _ hk => by
          have hlt5 : k < w2.heap.size := by omega
          exact hlt5)
        have hx0 := HX0.out
        subst hx0
        exact hfin
    | false =>
      rw [hc1, if_neg (by simp)] at hr
      have HC1 := Lib.hid hc1
      clear hc1
      go_wp2_with fail
      refine (has_no (al0.fr0 frx) HC1.out).mono ?_
      rintro en wl1 ⟨rfl, fl1, al1⟩
      have fl1 : Fr [X.pb] wl0 wl1 := Fr.trans frx fl1
      have hDwl1 := fr_pb hDwl0 fl1 (by omega)
      have hFwl1 := (hFwl0).trans fl1
      have hzwl1 := fl1.size
      cases hc2 : isW X.ws i (bt [110, 101, 119]) with
      | true =>
        rw [hc2, if_pos rfl] at hr
        have HC2 := Lib.hid hc2
        have hlt := isW_lt hc2
        clear hc2
        cases hq : P X.ws n .unit (i + 1) with
        | none => rw [hq] at hr; cases hr
        | some q =>
          rw [hq] at hr
          have HE := Lib.hid (HUN.out q (i + 1) hq)
          clear hq
          go_wp2_with fail
          refine (has_ok (al1.fr0 frx) HC2.out).mono ?_
          rintro en w2 ⟨rfl, hf2, a2⟩
          have hf2 : Fr [X.pb] wl1 w2 := Fr.trans frx hf2
          have hz2 := hf2.size
          have hD2 := fr_pb hDwl1 hf2 (by omega)
          have hF2 := (hFwl1).trans hf2
          go_wp2_with fail
          refine (HE.out _ (a2.fr0 frx)).mono ?_
          intro en w5 hp5
          cases q with
          | bad k2 =>
            obtain ⟨rfl, hf5⟩ := hp5
            have hr : some (Out.bad k2) = some r := hr
            injection hr with hr
            subst hr
            go_wp2_with fail
            exact ⟨rfl, rfl, hF2.trans (Fr.trans frx hf5)⟩
          | ok l b k2 =>
            obtain ⟨hdy, ny, rfl, hy, hf5, a5⟩ := hp5
            have hr : some (Out.ok [ndk 7 (bt []) [hd1 l]] false k2) = some r := hr
            injection hr with hr
            subst hr
            generalize hd1 l = y at *
            have hf5 : Fr [X.pb] w2 w5 := Fr.trans frx hf5
            have hz5 := hf5.size
            have hN5 : Fr [] w5 (w5.alloc (.cells (ndCells y hdy) 46)) := (Fr.refl _ _).alloc _
            have hR5 : Blk (w5.alloc (.cells (ndCells y hdy) 46)) w5.heap.size 46 (ndCells y hdy) := Blk.new _ _ _ _ rfl
            have hD5 := (fr_pb hD2 hf5 (by omega)).fr hN5 (by simp)
            have a6 := a5.fr0 hN5
            have hF5 := (hF2.trans hf5).trans (hN5.mono (by simp))
            have hy5 : NdH (fun b => b ≤ w.heap.size) ny _ hdy y := (hy.sub fun k _ hk => by
              have hlt5 : k < w2.heap.size := by omega
              exact hlt5).fr0 hN5
            have c0 := hD5.cell 0 rfl
            have c1 := hD5.cell 1 rfl
            have c2 := hD5.cell 2 rfl
            have c3 := hD5.cell 3 rfl
            have c4 := hD5.cell 4 rfl
            have c5 := hD5.cell 5 rfl
            have c6 := hD5.cell 6 rfl
            have cz0 := hD5.frozen 0
            have cz1 := hD5.frozen 1
            have cz2 := hD5.frozen 2
            have cz3 := hD5.frozen 3
            have cz4 := hD5.frozen 4
            have cz5 := hD5.frozen 5
            have cz6 := hD5.frozen 6
            go_wp2_with fail
            refine bodyPost_ret (results_node (x := ndk 7 (bt []) [y]) (hd := ⟨some ⟨w5.heap.size, 0, none⟩, 1, none, 0, none, 0, none, 0⟩) rfl _ _ w.heap.size rfl (hD5.node _ _ _ _ _ _ _)) rfl ?_
            exact Nd1.fin hAt hF5 a6 hD5.lt (NdH.sub_ (k := 7) (t := bt []) (by omega) (LN.one hR5 (by omega) hy5))
      | false =>
        rw [hc2, if_neg (by simp)] at hr
        have HC2 := Lib.hid hc2
        clear hc2
        go_wp2_with fail
        refine (has_no (al1.fr0 frx) HC2.out).mono ?_
        rintro en wl2 ⟨rfl, fl2, al2⟩
        have fl2 : Fr [X.pb] wl1 wl2 := Fr.trans frx fl2
        have hDwl2 := fr_pb hDwl1 fl2 (by omega)
        have hFwl2 := (hFwl1).trans fl2
        have hzwl2 := fl2.size
        cases hc3 : isW X.ws i (bt [108, 101, 110]) with
        | true =>
          rw [hc3, if_pos rfl] at hr
          have HC3 := Lib.hid hc3
          have hlt := isW_lt hc3
          clear hc3
          cases hq : P X.ws n .unit (i + 1) with
          | none => rw [hq] at hr; cases hr
          | some q =>
            rw [hq] at hr
            have HE := Lib.hid (HUN.out q (i + 1) hq)
            clear hq
            go_wp2_with fail
            refine (has_ok (al2.fr0 frx) HC3.out).mono ?_
            rintro en w2 ⟨rfl, hf2, a2⟩
            have hf2 : Fr [X.pb] wl2 w2 := Fr.trans frx hf2
            have hz2 := hf2.size
            have hD2 := fr_pb hDwl2 hf2 (by omega)
            have hF2 := (hFwl2).trans hf2
            go_wp2_with fail
            refine (HE.out _ (a2.fr0 frx)).mono ?_
            intro en w5 hp5
            cases q with
            | bad k2 =>
              obtain ⟨rfl, hf5⟩ := hp5
              have hr : some (Out.bad k2) = some r := hr
              injection hr with hr
              subst hr
              go_wp2_with fail
              exact ⟨rfl, rfl, hF2.trans (Fr.trans frx hf5)⟩
            | ok l b k2 =>
              obtain ⟨hdy, ny, rfl, hy, hf5, a5⟩ := hp5
              have hr : some (Out.ok [ndk 9 (bt []) [hd1 l]] false k2) = some r := hr
              injection hr with hr
              subst hr
              generalize hd1 l = y at *
              have hf5 : Fr [X.pb] w2 w5 := Fr.trans frx hf5
              have hz5 := hf5.size
              have hN5 : Fr [] w5 (w5.alloc (.cells (ndCells y hdy) 46)) := (Fr.refl _ _).alloc _
              have hR5 : Blk (w5.alloc (.cells (ndCells y hdy) 46)) w5.heap.size 46 (ndCells y hdy) := Blk.new _ _ _ _ rfl
              have hD5 := (fr_pb hD2 hf5 (by omega)).fr hN5 (by simp)
              have a6 := a5.fr0 hN5
              have hF5 := (hF2.trans hf5).trans (hN5.mono (by simp))
              have hy5 : NdH (fun b => b ≤ w.heap.size) ny _ hdy y := (hy.sub fun k _ hk => by
                have hlt5 : k < w2.heap.size := by omega
                exact hlt5).fr0 hN5
              have c0 := hD5.cell 0 rfl
              have c1 := hD5.cell 1 rfl
              have c2 := hD5.cell 2 rfl
              have c3 := hD5.cell 3 rfl
              have c4 := hD5.cell 4 rfl
              have c5 := hD5.cell 5 rfl
              have c6 := hD5.cell 6 rfl
              have cz0 := hD5.frozen 0
              have cz1 := hD5.frozen 1
              have cz2 := hD5.frozen 2
              have cz3 := hD5.frozen 3
              have cz4 := hD5.frozen 4
              have cz5 := hD5.frozen 5
              have cz6 := hD5.frozen 6
              go_wp2_with fail
              refine bodyPost_ret (results_node (x := ndk 9 (bt []) [y]) (hd := ⟨some ⟨w5.heap.size, 0, none⟩, 1, none, 0, none, 0, none, 0⟩) rfl _ _ w.heap.size rfl (hD5.node _ _ _ _ _ _ _)) rfl ?_
              exact Nd1.fin hAt hF5 a6 hD5.lt (NdH.sub_ (k := 9) (t := bt []) (by omega) (LN.one hR5 (by omega) hy5))
        | false =>
          rw [hc3, if_neg (by simp)] at hr
          have HC3 := Lib.hid hc3
          clear hc3
          go_wp2_with fail
          refine (has_no (al2.fr0 frx) HC3.out).mono ?_
          rintro en wl3 ⟨rfl, fl3, al3⟩
          have fl3 : Fr [X.pb] wl2 wl3 := Fr.trans frx fl3
          have hDwl3 := fr_pb hDwl2 fl3 (by omega)
          have hFwl3 := (hFwl2).trans fl3
          have hzwl3 := fl3.size
          cases hc4 : isW X.ws i (bt [105, 110, 112, 117, 116]) with
          | true =>
            rw [hc4, if_pos rfl] at hr
            have HC4 := Lib.hid hc4
            have hlt := isW_lt hc4
            clear hc4
            injection hr with hr
            subst hr
            go_wp2_with fail
            refine (has_ok (al3.fr0 frx) HC4.out).mono ?_
            rintro en w2 ⟨rfl, hf2, a2⟩
            have hf2 : Fr [X.pb] wl3 w2 := Fr.trans frx hf2
            have hz2 := hf2.size
            have hD2 := fr_pb hDwl3 hf2 (by omega)
            have hF2 := (hFwl3).trans hf2
            have c0 := hD2.cell 0 rfl
            have c1 := hD2.cell 1 rfl
            have c2 := hD2.cell 2 rfl
            have c3 := hD2.cell 3 rfl
            have c4 := hD2.cell 4 rfl
            have c5 := hD2.cell 5 rfl
            have c6 := hD2.cell 6 rfl
            have cz0 := hD2.frozen 0
            have cz1 := hD2.frozen 1
            have cz2 := hD2.frozen 2
            have cz3 := hD2.frozen 3
            have cz4 := hD2.frozen 4
            have cz5 := hD2.frozen 5
            have cz6 := hD2.frozen 6
            go_wp2_with fail
            refine bodyPost_ret (results_node (x := ndk 11 (bt []) []) (hd := ⟨none, 0, none, 0, none, 0, none, 0⟩) rfl _ _ w.heap.size rfl (hD2.node _ _ _ _ _ _ _)) rfl ?_
            exact Nd1.fin hAt hF2 a2 hD2.lt (NdH.leaf (by omega) (by omega) _ 0 _)
          | false =>
            rw [hc4, if_neg (by simp)] at hr
            have HC4 := Lib.hid hc4
            clear hc4
            go_wp2_with fail
            refine (has_no (al3.fr0 frx) HC4.out).mono ?_
            rintro en wl4 ⟨rfl, fl4, al4⟩
            have fl4 : Fr [X.pb] wl3 wl4 := Fr.trans frx fl4
            have hDwl4 := fr_pb hDwl3 fl4 (by omega)
            have hFwl4 := (hFwl3).trans fl4
            have hzwl4 := fl4.size
            cases hc5 : isW X.ws i (bt [99, 108, 111, 99, 107]) with
            | true =>
              rw [hc5, if_pos rfl] at hr
              have HC5 := Lib.hid hc5
              have hlt := isW_lt hc5
              clear hc5
              injection hr with hr
              subst hr
              go_wp2_with fail
              refine (has_ok (al4.fr0 frx) HC5.out).mono ?_
              rintro en w2 ⟨rfl, hf2, a2⟩
              have hf2 : Fr [X.pb] wl4 w2 := Fr.trans frx hf2
              have hz2 := hf2.size
              have hD2 := fr_pb hDwl4 hf2 (by omega)
              have hF2 := (hFwl4).trans hf2
              have c0 := hD2.cell 0 rfl
              have c1 := hD2.cell 1 rfl
              have c2 := hD2.cell 2 rfl
              have c3 := hD2.cell 3 rfl
              have c4 := hD2.cell 4 rfl
              have c5 := hD2.cell 5 rfl
              have c6 := hD2.cell 6 rfl
              have cz0 := hD2.frozen 0
              have cz1 := hD2.frozen 1
              have cz2 := hD2.frozen 2
              have cz3 := hD2.frozen 3
              have cz4 := hD2.frozen 4
              have cz5 := hD2.frozen 5
              have cz6 := hD2.frozen 6
              go_wp2_with fail
              refine bodyPost_ret (results_node (x := ndk 12 (bt []) []) (hd := ⟨none, 0, none, 0, none, 0, none, 0⟩) rfl _ _ w.heap.size rfl (hD2.node _ _ _ _ _ _ _)) rfl ?_
              exact Nd1.fin hAt hF2 a2 hD2.lt (NdH.leaf (by omega) (by omega) _ 0 _)
            | false =>
              rw [hc5, if_neg (by simp)] at hr
              have HC5 := Lib.hid hc5
              clear hc5
              go_wp2_with fail
              refine (has_no (al4.fr0 frx) HC5.out).mono ?_
              rintro en wl5 ⟨rfl, fl5, al5⟩
              have fl5 : Fr [X.pb] wl4 wl5 := Fr.trans frx fl5
              have hDwl5 := fr_pb hDwl4 fl5 (by omega)
              have hFwl5 := (hFwl4).trans fl5
              have hzwl5 := fl5.size
              cases hc6 : isW X.ws i (bt [102, 110]) with
              | true =>
                rw [hc6, if_pos rfl] at hr
                have HC6 := Lib.hid hc6
                have hlt := isW_lt hc6
                clear hc6
                cases hn : namesW X.ws (i + 1) with
                | inr j =>
                  rw [hn] at hr
                  injection hr with hr
                  subst hr
                  have HNM := Lib.hid hn
                  clear hn
                  go_wp2_with fail
                  refine (has_ok (al5.fr0 frx) HC6.out).mono ?_
                  rintro en w2 ⟨rfl, hf2, a2⟩
                  have hf2 : Fr [X.pb] wl5 w2 := Fr.trans frx hf2
                  have hz2 := hf2.size
                  have hD2 := fr_pb hDwl5 hf2 (by omega)
                  have hF2 := (hFwl5).trans hf2
                  go_wp2_with fail
                  refine (names_step _ (a2.fr0 frx) HNM.out).mono ?_
                  rintro en w3 ⟨rfl, hf3⟩
                  go_wp2_with fail
                  exact ⟨rfl, rfl, hF2.trans (Fr.trans frx hf3)⟩
                | inl p =>
                  obtain ⟨ns, j⟩ := p
                  rw [hn] at hr
                  have hr : (andW (P X.ws n .block j) fun b _ j2 => some (.ok [.mk 10 (bt []) 0 [] ns b []] false j2)) = some r := hr
                  have HNM := Lib.hid hn
                  clear hn
                  cases hq : P X.ws n .block j with
                  | none => rw [hq] at hr; cases hr
                  | some q =>
                    rw [hq] at hr
                    have HE := Lib.hid (HBL.out q j hq)
                    clear hq
                    go_wp2_with fail
                    refine (has_ok (al5.fr0 frx) HC6.out).mono ?_
                    rintro en w2 ⟨rfl, hf2, a2⟩
                    have hf2 : Fr [X.pb] wl5 w2 := Fr.trans frx hf2
                    have hz2 := hf2.size
                    have hD2 := fr_pb hDwl5 hf2 (by omega)
                    have hF2 := (hFwl5).trans hf2
                    go_wp2_with fail
                    refine (names_step _ (a2.fr0 frx) HNM.out).mono ?_
                    rintro en w3 ⟨An, cn, rfl, hns, hf3, a3⟩
                    have hf3 : Fr [X.pb] w2 w3 := Fr.trans frx hf3
                    have hz3 := hf3.size
                    go_wp2_with fail
                    have hN3 : Fr [] w3 (w3.alloc (.cells #[.int .u8 10, .string ⟨#[]⟩, .int .i64 0, .slice none 0 0, .slice An ns.length cn, .slice none 0 0, .slice none 0 0] 46)) := (Fr.refl _ _).alloc _
                    have hT3 : Blk (w3.alloc (.cells #[.int .u8 10, .string ⟨#[]⟩, .int .i64 0, .slice none 0 0, .slice An ns.length cn, .slice none 0 0, .slice none 0 0] 46)) w3.heap.size 46 #[.int .u8 10, .string ⟨#[]⟩, .int .i64 0, .slice none 0 0, .slice An ns.length cn, .slice none 0 0, .slice none 0 0] := Blk.new _ _ _ _ rfl
                    have hns3 : RdS (fun b => b ≤ w.heap.size ∨ b = w3.heap.size) _ .string An cn ns := (hns.sub fun k hk hS => by
                      have hlt5 : k < w2.heap.size := by rcases hS with hS | hS <;> omega
                      exact hlt5).fr0 hN3
                    have hD3 := (fr_pb hD2 hf3 (by omega)).fr hN3 (by simp)
                    have hF3 := (hF2.trans hf3).trans (hN3.mono (by simp))
                    refine (HE.out _ ((a3.fr0 hN3).fr0 frx)).mono ?_
                    intro en w5 hp5
                    cases q with
                    | bad k2 =>
                      obtain ⟨rfl, hf5⟩ := hp5
                      have hr : some (Out.bad k2) = some r := hr
                      injection hr with hr
                      subst hr
                      go_wp2_with fail
                      exact ⟨rfl, rfl, hF3.trans (Fr.trans frx hf5)⟩
                    | ok l b k2 =>
                      obtain ⟨Ab, cb, nb, rfl, hb, hf5, a5⟩ := hp5
                      have hr : some (Out.ok [.mk 10 (bt []) 0 [] ns l []] false k2) = some r := hr
                      injection hr with hr
                      subst hr
                      obtain ⟨mb, rfl⟩ := hb.pos
                      have hT5 := fr_pb hT3 (Fr.trans frx hf5) (by omega)
                      have hD5 := fr_pb hD3 (Fr.trans frx hf5) (by omega)
                      have hF5 := hF3.trans (Fr.trans frx hf5)
                      have hz5 := (Fr.trans frx hf5 : Fr [X.pb] _ w5).size
                      have hns5 := hns3.fr (Fr.trans frx hf5) (fun k hk => by simp at hk; subst hk; exact .inl (by omega))
                      have hb5 : LN (fun b => b ≤ w.heap.size ∨ b = w3.heap.size) (mb + 1) w5 Ab cb l := hb.sub fun k hk hS => by
                        have hlt5 : k < w3.heap.size + 1 := by rcases hS with hS | hS <;> omega
                        simpa using hlt5
                      have hlt3 : w.heap.size < w3.heap.size := by omega
                      obtain ⟨M, hM⟩ : ∃ M, M = w5.setCell ⟨w3.heap.size, 5, none⟩ (.slice Ab l.length cb) := ⟨_, rfl⟩
                      have hS5 : Fr [w3.heap.size] w5 M := by rw [hM]; exact (Fr.refl _ _).setCell (.inl (by simp)) _
                      have hT6 : Blk M w3.heap.size 46 #[.int .u8 10, .string ⟨#[]⟩, .int .i64 0, .slice none 0 0, .slice An ns.length cn, .slice Ab l.length cb, .slice none 0 0] := by
                        rw [hM]
                        simpa using hT5.set_ 5 (.slice Ab l.length cb)
                      have hD6 := hD5.fr hS5 (by simp; omega)
                      have a6 := At.new hAt a5 hS5 (by simp; omega)
                      have hF6 : Fr [X.pb] w M := by rw [hM]; exact hF5.setCell (p := ⟨w3.heap.size, 5, none⟩) (.inr (by show w.heap.size ≤ w3.heap.size; omega)) _
                      have hns6 := (hns5.fr hS5 (fun k hk => by simp at hk; subst hk; exact .inr rfl)).sub (S' := fun b => b ≤ w.heap.size) fun k _ hk => .inl hk
                      have hb6 := (hb5.fr hS5 (fun k hk => by simp at hk; subst hk; exact .inr rfl)).sub (S' := fun b => b ≤ w.heap.size) fun k _ hk => .inl hk
                      have y5 := hT5.frozen 5
                      have x5 : w5.cell? ⟨w3.heap.size, 5, none⟩ = some (.slice none 0 0) := hT5.cell 5 rfl
                      have HM := Lib.hid hM.symm
                      have c0 := hD6.cell 0 rfl
                      have c1 := hD6.cell 1 rfl
                      have c2 := hD6.cell 2 rfl
                      have c3 := hD6.cell 3 rfl
                      have c4 := hD6.cell 4 rfl
                      have c5 := hD6.cell 5 rfl
                      have c6 := hD6.cell 6 rfl
                      have cz0 := hD6.frozen 0
                      have cz1 := hD6.frozen 1
                      have cz2 := hD6.frozen 2
                      have cz3 := hD6.frozen 3
                      have cz4 := hD6.frozen 4
                      have cz5 := hD6.frozen 5
                      have cz6 := hD6.frozen 6
                      have d0 := hT6.cell 0 rfl
                      have d1 := hT6.cell 1 rfl
                      have d2 := hT6.cell 2 rfl
                      have d3 := hT6.cell 3 rfl
                      have d4 := hT6.cell 4 rfl
                      have d5 := hT6.cell 5 rfl
                      have d6 := hT6.cell 6 rfl
                      have dz0 := hT6.frozen 0
                      have dz1 := hT6.frozen 1
                      have dz2 := hT6.frozen 2
                      have dz3 := hT6.frozen 3
                      have dz4 := hT6.frozen 4
                      have dz5 := hT6.frozen 5
                      have dz6 := hT6.frozen 6
                      clear hM hT5 hT3 hT6 hD3 hD5
                      go_upto_region 27 with fail
                      try simp only [HM.out]
                      go_wp2_with fail
                      refine bodyPost_ret (results_node (x := .mk 10 (bt []) 0 [] ns l []) (hd := ⟨none, 0, An, cn, Ab, cb, none, 0⟩) rfl _ _ w.heap.size rfl (hD6.node _ _ _ _ _ _ _)) rfl ?_
                      exact Nd1.fin hAt hF6 a6 hD6.lt (NdH.mk_ (h := ⟨none, 0, An, cn, Ab, cb, none, 0⟩) (by omega) (by omega) (LN.nil0 _ _ _ _) hns6 hb6 (LN.nil0 _ _ _ _))
              | false =>
                rw [hc6, if_neg (by simp)] at hr
                have HC6 := Lib.hid hc6
                clear hc6
                go_wp2_with fail
                refine (has_no (al5.fr0 frx) HC6.out).mono ?_
                rintro en wl6 ⟨rfl, fl6, al6⟩
                have fl6 : Fr [X.pb] wl5 wl6 := Fr.trans frx fl6
                have hDwl6 := fr_pb hDwl5 fl6 (by omega)
                have hFwl6 := (hFwl5).trans fl6
                have hzwl6 := fl6.size
                injection hr with hr
                subst hr
                go_wp2_with fail
                refine (fail_any _ (al6.fr0 frx) X.hm).mono ?_
                rintro en w9 ⟨rfl, hf9⟩
                go_wp2_with fail
                exact ⟨rfl, rfl, (hFwl6).trans (Fr.trans frx hf9)⟩
end
end

end Go.Proofs.YtchldahkcpbgcaaGreatDoor
