/- Choose, Ancestors: of the program and the reference. -/
import Derived.Test.YtjpbmbonccenfaaChoose
import Derived.Deep.RegionHeld3
namespace Go.Proofs.Ytjpbmbonccenfaa
open Go.RowKit
set_option linter.unusedVariables false

/-- Choose. -/
def chooseR (P : List (List Int)) (cand skip : List Int) : Int × Int :=
  if checkHist P ≠ 0 then (0, checkHist P) else if isSet P.length cand = false ∨ isSet P.length skip = false then (0, 1) else if chooseOf P cand skip < 0 then (0, 7) else (chooseOf P cand skip, 0)
/-- The call returns two numbers. -/
def RetPair (w : World) (r : Int × Int) (e : Ending) (w' : World) : Prop := e = .returned (.tuple #[.int .i64 r.1, .int .i64 r.2]) ∧ Fr [] w w'
theorem RetPair.of {w w' : World} {r : Int × Int} {a b : Int} (h : r = (a, b)) (hf : Fr [] w w') : RetPair w r (.returned (.tuple #[.int .i64 a, .int .i64 b])) w' := by subst h; exact ⟨rfl, hf⟩

theorem chFold_start {P : List (List Int)} {cand : List Int} {x : Int} (xs : List Int) (a b : Int) : (x :: xs).foldl (chStep P cand) (-1, a) = (x :: xs).foldl (chStep P cand) (-1, b) := by
  have := chW_nonneg P cand x
  simp only [List.foldl_cons]
  have e : ∀ a : Int, chStep P cand (-1, a) x = (chW P cand x, x) := fun a => by
    unfold chStep
    exact if_pos (by simp only; omega)
  rw [e a, e b]
theorem chFold_mem {P : List (List Int)} {cand : List Int} : ∀ (xs : List Int) (b : Int × Int), (xs.foldl (chStep P cand) b).2 = b.2 ∨ (xs.foldl (chStep P cand) b).2 ∈ xs
  | [], b => .inl rfl
  | x :: xs, b => by
    rw [List.foldl_cons]
    rcases chFold_mem xs (chStep P cand b x) with h | h
    · rw [h]; unfold chStep; split
      · exact .inr (by simp)
      · exact .inl rfl
    · exact .inr (by simp [h])
/-- What is chosen is a candidate that is not to be skipped, unless there is none. -/
theorem choose_mem {P : List (List Int)} {cand skip : List Int} (h : minus cand skip ≠ []) (hin : InR P.length cand) : chooseOf P cand skip ∈ minus cand skip := by
  unfold chooseOf
  obtain ⟨x, xs, hx⟩ := List.exists_cons_of_ne_nil h
  rw [hx, chFold_start xs (-1) x]
  rcases chFold_mem (P := P) (cand := cand) (x :: xs) (-1, x) with h1 | h1
  · rw [h1]; simp
  · exact h1
theorem choose_neg {P : List (List Int)} {cand skip : List Int} (hin : InR P.length cand) : chooseOf P cand skip < 0 ↔ minus cand skip = [] := by
  constructor
  · intro h
    by_cases hm : minus cand skip = []
    · exact hm
    · have h1 := choose_mem hm hin
      have h2 := hin _ (mem_minus.1 h1).1
      omega
  · intro h
    unfold chooseOf; rw [h]; simp

theorem Rd.get_ {α : Type} {w : World} {enc : α → Value} {b off c k : Nat} {x : α} {xs : List α} (h : Rd w enc (some ⟨b, off, none⟩) c xs) (hx : xs[k]? = some x) : w.cell? ⟨b, off + k, none⟩ = some (enc x) := by
  obtain ⟨b', off', hA, hc⟩ := h.at0 (by have := (List.getElem?_eq_some_iff.1 hx).1; omega)
  injection hA with hA
  injection hA with e1 e2
  subst e1 e2
  exact hc k x hx
theorem Rd.one_cell {α : Type} {w : World} {enc : α → Value} {g : Nat} {x : α} (h : w.cell? ⟨g, 0, none⟩ = some (enc x)) : Rd w enc (some ⟨g, 0, none⟩) 1 [x] :=
  ⟨Nat.le_refl _, by unfold maxLen; omega, fun _ => ⟨g, 0, rfl, fun k y hy => by
    match k, hy with
    | 0, hy => simp at hy; subst hy; exact h⟩⟩

set_option maxRecDepth 100000 in
set_option maxHeartbeats 1600000 in
theorem Choose_any (A B C : Option Addr) (c d f : Nat) (P : List (List Int)) (cand skip : List Int) (w : World) (ha : Rss w A c P) (hb : Rd w (.int .i64) B d cand) (hc : Rd w (.int .i64) C f skip) :
    Calls Try.prog 35 #[.agg #[.slice A P.length c], .slice B cand.length d, .slice C skip.length f] w (RetPair w (chooseR P cand skip)) := by
  have hf0 : Fr [] w (w.alloc (.cells #[.slice A P.length c] 57)) := (by repeat (first | exact Fr.refl _ _ | assumption | apply Fr.drewN | apply Fr.drew | apply Fr.alloc | refine Fr.setCell ?_ (by simp) _))
  have hb0 := Blk.new w 57 #[.slice A P.length c] _ rfl
  have hck := CheckHistory_any A c P (w.alloc (.cells #[.slice A P.length c] 57)) (ha.fr0 hf0)
  by_cases h1 : checkHist P = 0
  · have hb1 : (checkHist P != 0) = false := by simp [h1]
    have HV := Lib.hid (valH h1)
    have H1 := Lib.hid h1
    have hn := HV.out.1
    clear h1
    by_cases h2 : isSet P.length cand = true
    · obtain ⟨h2r, h2l⟩ := set_inR h2
      have H2 := Lib.hid h2
      have H2R := Lib.hid h2r
      clear h2r
      by_cases h3 : isSet P.length skip = true
      · have H3 := Lib.hid h3
        have hR : Hid (chooseR P cand skip = if chooseOf P cand skip < 0 then (0, 7) else (chooseOf P cand skip, 0)) := by
          show _ = _
          unfold chooseR
          rw [if_neg (by simp [H1.out]), if_neg (by simp [h2, h3])]
        go_enter Try.func35, Try.ntmps35
        go_wp2_with fail
        refine hck.mono ?_
        rintro e w1 ⟨rfl, hf1⟩
        have q0 := (hb0.fr hf1 (by simp)).cell 0 rfl
        have hF1 := hf0.trans hf1
        go_wp2_with fail
        refine (rising_any B d cand P.length _ (hb.fr0 hF1)).mono ?_
        rintro e w2 ⟨rfl, n2, rfl⟩
        go_wp2_with fail
        refine (rising_any C f skip P.length _ ((hc.fr0 hF1).drewN _)).mono ?_
        rintro e w3 ⟨rfl, n3, rfl⟩
        go_wp2_with fail
        refine (choose_any A B C c d f P cand skip _ ((ha.fr0 hF1).drewN _) ((hb.fr0 hF1).drewN _) ((hc.fr0 hF1).drewN _) HV.out H2R.out (by omega)).mono ?_
        rintro e w4 ⟨rfl, hf4⟩
        have hF4 := (hF1.drewN _).trans hf4
        by_cases h4 : chooseOf P cand skip < 0
        · have hRR : Hid (chooseR P cand skip = (0, 7)) := hR.out.trans (if_pos h4)
          clear hR
          go_wp2
          go_ret2
          exact RetPair.of hRR.out hF4
        · have hRR : Hid (chooseR P cand skip = (chooseOf P cand skip, 0)) := hR.out.trans (if_neg h4)
          clear hR
          go_wp2
          go_ret2
          exact RetPair.of hRR.out hF4
      · have h3' : isSet P.length skip = false := by simpa using h3
        have hR : Hid (chooseR P cand skip = (0, 1)) := by
          show _ = _
          unfold chooseR
          rw [if_neg (by simp [H1.out]), if_pos (.inr h3')]
        clear h3
        go_enter Try.func35, Try.ntmps35
        go_wp2_with fail
        refine hck.mono ?_
        rintro e w1 ⟨rfl, hf1⟩
        have q0 := (hb0.fr hf1 (by simp)).cell 0 rfl
        have hF1 := hf0.trans hf1
        go_wp2_with fail
        refine (rising_any B d cand P.length _ (hb.fr0 hF1)).mono ?_
        rintro e w2 ⟨rfl, n2, rfl⟩
        go_wp2_with fail
        refine (rising_any C f skip P.length _ ((hc.fr0 hF1).drewN _)).mono ?_
        rintro e w3 ⟨rfl, n3, rfl⟩
        go_wp2
        go_ret2
        exact RetPair.of hR.out (hF1.drewN _)
    · have h2' : isSet P.length cand = false := by simpa using h2
      have hR : Hid (chooseR P cand skip = (0, 1)) := by
        show _ = _
        unfold chooseR
        rw [if_neg (by simp [H1.out]), if_pos (.inl h2')]
      clear h2
      go_enter Try.func35, Try.ntmps35
      go_wp2_with fail
      refine hck.mono ?_
      rintro e w1 ⟨rfl, hf1⟩
      have q0 := (hb0.fr hf1 (by simp)).cell 0 rfl
      have hF1 := hf0.trans hf1
      go_wp2_with fail
      refine (rising_any B d cand P.length _ (hb.fr0 hF1)).mono ?_
      rintro e w2 ⟨rfl, n2, rfl⟩
      go_wp2
      go_ret2
      exact RetPair.of hR.out (hF1.drewN _)
  · have hb1 : (checkHist P != 0) = true := by simpa using h1
    have hR : Hid (chooseR P cand skip = (0, checkHist P)) := by
      show _ = _
      unfold chooseR
      rw [if_pos h1]
    clear h1
    go_enter Try.func35, Try.ntmps35
    go_wp2_with fail
    refine hck.mono ?_
    rintro e w1 ⟨rfl, hf1⟩
    go_wp2
    go_ret2
    exact RetPair.of hR.out (hf0.trans hf1)

set_option maxRecDepth 100000 in
set_option maxHeartbeats 3200000 in
theorem refChoose_any (A B C : Option Addr) (c d f : Nat) (P : List (List Int)) (cand skip : List Int) (w : World) (ha : Rss w A c P) (hb : Rd w (.int .i64) B d cand) (hc : Rd w (.int .i64) C f skip) :
    Calls Try.prog 36 #[.agg #[.slice A P.length c], .slice B cand.length d, .slice C skip.length f] w (RetPair w (chooseR P cand skip)) := by
  have hf0 : Fr [] w (w.alloc (.cells #[.slice A P.length c] 57)) := (by repeat (first | exact Fr.refl _ _ | assumption | apply Fr.drewN | apply Fr.drew | apply Fr.alloc | refine Fr.setCell ?_ (by simp) _))
  have hb0 := Blk.new w 57 #[.slice A P.length c] _ rfl
  have hck := refCheckHistory_any A c P (w.alloc (.cells #[.slice A P.length c] 57)) (ha.fr0 hf0)
  by_cases h1 : checkHist P = 0
  · have hb1 : (checkHist P != 0) = false := by simp [h1]
    have HV := Lib.hid (valH h1)
    have H1 := Lib.hid h1
    have hn := HV.out.1
    clear h1
    by_cases h2 : isSet P.length cand = true
    · obtain ⟨h2r, h2l⟩ := set_inR h2
      have H2 := Lib.hid h2
      have H2R := Lib.hid h2r
      clear h2r
      by_cases h3 : isSet P.length skip = true
      · have H3 := Lib.hid h3
        have hR : Hid (chooseR P cand skip = if chooseOf P cand skip < 0 then (0, 7) else (chooseOf P cand skip, 0)) := by
          show _ = _
          unfold chooseR
          rw [if_neg (by simp [H1.out]), if_neg (by simp [h2, h3])]
        have hneg := choose_neg (skip := skip) H2R.out
        go_enter Try.func36, Try.ntmps36
        go_wp2_with fail
        refine hck.mono ?_
        rintro e w1 ⟨rfl, hf1⟩
        have q0 := (hb0.fr hf1 (by simp)).cell 0 rfl
        have hF1 := hf0.trans hf1
        go_wp2_with fail
        refine (Set_any B d cand P.length _ (hb.fr0 hF1)).mono ?_
        rintro e w2 ⟨rfl, n2, rfl⟩
        go_wp2_with fail
        refine (Set_any C f skip P.length _ ((hc.fr0 hF1).drewN _)).mono ?_
        rintro e w3 ⟨rfl, n3, rfl⟩
        go_wp2_with fail
        refine (MinusR_any B C d f cand skip _ ((hb.fr0 hF1).drewN _) ((hc.fr0 hF1).drewN _) (by omega)).mono ?_
        rintro e w4 ⟨A4, c4, rfl, hf4, ho4⟩
        have hF4 := (hF1.drewN _).trans hf4
        have r4 : Rd w4 (.int .i64) A4 c4 (minus cand skip) := (Rd.of_own ho4).2
        have hml := minus_le cand skip
        have HMM : Hid (∀ x ∈ minus cand skip, x ∈ cand) := fun x hx => (mem_minus.1 hx).1
        have hco : Hid (chooseOf P cand skip = ((minus cand skip).foldl (chStep P cand) (-1, -1)).2) := rfl
        have hbH := ((hb0.fr hf1 (by simp)).drewN (n2 + n3)).fr hf4 (by simp)
        clear ho4 hf4 q0 h2 h3
        generalize minus cand skip = op at *
        by_cases h4 : op.length = 0
        · have hRR : Hid (chooseR P cand skip = (0, 7)) := hR.out.trans (if_pos (hneg.2 (List.eq_nil_of_length_eq_zero h4)))
          have b4 : ((op.length : Int) == 0) = true := by simp [h4]
          clear hR hneg h4
          go_wp2
          go_ret2
          exact RetPair.of hRR.out hF4
        · have hRR : Hid (chooseR P cand skip = (chooseOf P cand skip, 0)) := hR.out.trans (if_neg fun h => h4 (by rw [hneg.1 h]; rfl))
          have b4 : ((op.length : Int) == 0) = false := by rw [beq_eq_false_iff_ne]; omega
          have hne : Hid (op ≠ []) := fun h => h4 (by rw [h]; rfl)
          clear hR hneg h4
          have rb := r4.bound
          go_wp2_with fail
          go_loopw [10, 11, 12] (fun av bv i wr => ∃ (k : Nat) (b a : Int), k ≤ op.length ∧ i = .int .i64 k ∧ bv = .int .i64 b ∧ av = .int .i64 a ∧ -1 ≤ b ∧ b ≤ cand.length ∧ Hid ((op.take k).foldl (chStep P cand) (-1, 0) = (b, a)) ∧ Fr [] w4 wr) (fun _ _ i _ => op.length - (intOf i).toNat)
          case atStart => exact ⟨0, -1, 0, Nat.zero_le _, rfl, rfl, rfl, by omega, by omega, by show _ = _; simp, Fr.refl _ _⟩
          case round =>
            obtain ⟨k, b, a, hk, rfl, rfl, rfl, hbb1, hbb2, hst, hf⟩ := hrel
            have q0 := (hbH.fr hf (by simp)).cell 0 rfl
            have hF := hF4.trans hf
            by_cases hlt : k < op.length
            · obtain ⟨b1, o1, v, rfl, hx, hc1⟩ := (r4.fr0 hf).at_ hlt
              have hvr := H2R.out v (HMM.out v (List.mem_of_getElem? hx.out))
              obtain ⟨vn, rfl⟩ : ∃ vn : Nat, v = vn := ⟨v.toNat, by omega⟩
              have hst' : Hid ((op.take (k + 1)).foldl (chStep P cand) (-1, 0) = chStep P cand (b, a) vn) := by
                show _ = _
                rw [List.take_add_one, hx.out, List.foldl_append, hst.out]; rfl
              clear hst
              have hvl : vn < P.length := by omega
              go_wp2_with fail
              go_region_held3 (fun w' => w'.cell? ⟨w.heap.size, 0, none⟩ = some (.slice A P.length c) ∧ w'.cell? ⟨b1, o1 + k, none⟩ = some (.int .i64 vn))
                (first
                  | go_keep
                  | (go_split_ands
                     exact ⟨hfa.cell (by assumption) (by simp), hfa.cell (by assumption) (by simp)⟩)
                  | (go_split_ands
                     exact ⟨hfb.cell (by assumption) (by simp), hfb.cell (by assumption) (by simp)⟩))
                (first
                  | (go_at_call 58; refine (refancestors_any A _ c 1 P [(vn : Int)] _ (ha.fr0 (by repeat (first | exact Fr.refl _ _ | assumption | apply Fr.drewN | apply Fr.drew | apply Fr.alloc | refine Fr.setCell ?_ (by simp) _))) (Rd.one_cell (by simp)) HV.out (fun x hx => by simp at hx; omega) (by omega)).mono ?_; rintro e w5 ⟨A5, c5, rfl, hfa, ho5⟩)
                  | (go_at_call 64; refine (Both_any B A5 d c5 cand (ancOf P [(vn : Int)]) _ (hb.fr0 (Fr.trans (by repeat (first | exact Fr.refl _ _ | assumption | apply Fr.drewN | apply Fr.drew | apply Fr.alloc | refine Fr.setCell ?_ (by simp) _)) hfa)) ((Rd.of_own ho5).2.fr0 (by repeat (first | exact Fr.refl _ _ | assumption | apply Fr.drewN | apply Fr.drew | apply Fr.alloc | refine Fr.setCell ?_ (by simp) _))) (by omega)).mono ?_; rintro e w6 ⟨A6, c6, rfl, hfb, ho6⟩))
              have hf46 : Fr [] w4 w6 := Fr.trans (Fr.trans (Fr.trans (by repeat (first | exact Fr.refl _ _ | assumption | apply Fr.drewN | apply Fr.drew | apply Fr.alloc | refine Fr.setCell ?_ (by simp) _)) hfa) (by repeat (first | exact Fr.refl _ _ | assumption | apply Fr.drewN | apply Fr.drew | apply Fr.alloc | refine Fr.setCell ?_ (by simp) _))) hfb
              have hble := both_le cand (ancOf P [(vn : Int)])
              have hchw : Hid (chW P cand vn = min ((bothL cand (ancOf P [(vn : Int)])).length : Int) ((cand.length : Int) - (bothL cand (ancOf P [(vn : Int)])).length)) := rfl
              have hcb := chW_nonneg P cand vn
              have g1 := hf46.cell (r4.get_ hx.out) (by simp)
              clear ho5 ho6 q0 hc1
              generalize (bothL cand (ancOf P [(vn : Int)])).length = m at *
              obtain ⟨q, hq⟩ : ∃ q, chW P cand vn = q := ⟨_, rfl⟩
              have hif : (if (cand.length : Int) - m < m then (cand.length : Int) - m else m) = q := by
                rw [← hq, hchw.out]; split <;> omega
              rw [hq] at hcb
              have HQ := Lib.hid hq
              clear hq hchw
              by_cases hbq : b < q
              · have hfin : Hid ((op.take (k + 1)).foldl (chStep P cand) (-1, 0) = (q, (vn : Int))) := by
                  show _ = _
                  rw [hst'.out]; unfold chStep; rw [HQ.out, if_pos hbq]
                clear hst'
                go_wp2_with fail
                go_roundw
                case rel => exact ⟨k + 1, q, vn, by omega, by go_num, rfl, rfl, by omega, by omega, hfin, (by repeat (first | exact Fr.refl _ _ | assumption | apply Fr.drewN | apply Fr.drew | apply Fr.alloc | refine Fr.setCell ?_ (by simp) _))⟩
                case measure => simp [intOf]; omega
              · have hfin : Hid ((op.take (k + 1)).foldl (chStep P cand) (-1, 0) = (b, a)) := by
                  show _ = _
                  rw [hst'.out]; unfold chStep; rw [HQ.out, if_neg hbq]
                clear hst'
                go_wp2_with fail
                go_roundw
                case rel => exact ⟨k + 1, b, a, by omega, by go_num, rfl, rfl, by omega, by omega, hfin, (by repeat (first | exact Fr.refl _ _ | assumption | apply Fr.drewN | apply Fr.drew | apply Fr.alloc | refine Fr.setCell ?_ (by simp) _))⟩
                case measure => simp [intOf]; omega
            · go_wp2
              go_ret2
              refine RetPair.of (hRR.out.trans ?_) hF
              have := hst.out
              rw [List.take_of_length_le (by omega)] at this
              rw [hco.out]
              obtain ⟨x, xs, hx⟩ := List.exists_cons_of_ne_nil hne.out
              rw [hx] at this ⊢
              rw [chFold_start xs (-1) 0, this]
      · have h3' : isSet P.length skip = false := by simpa using h3
        have hR : Hid (chooseR P cand skip = (0, 1)) := by
          show _ = _
          unfold chooseR
          rw [if_neg (by simp [H1.out]), if_pos (.inr h3')]
        clear h3
        go_enter Try.func36, Try.ntmps36
        go_wp2_with fail
        refine hck.mono ?_
        rintro e w1 ⟨rfl, hf1⟩
        have q0 := (hb0.fr hf1 (by simp)).cell 0 rfl
        have hF1 := hf0.trans hf1
        go_wp2_with fail
        refine (Set_any B d cand P.length _ (hb.fr0 hF1)).mono ?_
        rintro e w2 ⟨rfl, n2, rfl⟩
        go_wp2_with fail
        refine (Set_any C f skip P.length _ ((hc.fr0 hF1).drewN _)).mono ?_
        rintro e w3 ⟨rfl, n3, rfl⟩
        go_wp2
        go_ret2
        exact RetPair.of hR.out (hF1.drewN _)
    · have h2' : isSet P.length cand = false := by simpa using h2
      have hR : Hid (chooseR P cand skip = (0, 1)) := by
        show _ = _
        unfold chooseR
        rw [if_neg (by simp [H1.out]), if_pos (.inl h2')]
      clear h2
      go_enter Try.func36, Try.ntmps36
      go_wp2_with fail
      refine hck.mono ?_
      rintro e w1 ⟨rfl, hf1⟩
      have q0 := (hb0.fr hf1 (by simp)).cell 0 rfl
      have hF1 := hf0.trans hf1
      go_wp2_with fail
      refine (Set_any B d cand P.length _ (hb.fr0 hF1)).mono ?_
      rintro e w2 ⟨rfl, n2, rfl⟩
      go_wp2
      go_ret2
      exact RetPair.of hR.out (hF1.drewN _)
  · have hb1 : (checkHist P != 0) = true := by simpa using h1
    have hR : Hid (chooseR P cand skip = (0, checkHist P)) := by
      show _ = _
      unfold chooseR
      rw [if_pos h1]
    clear h1
    go_enter Try.func36, Try.ntmps36
    go_wp2_with fail
    refine hck.mono ?_
    rintro e w1 ⟨rfl, hf1⟩
    go_wp2
    go_ret2
    exact RetPair.of hR.out (hf0.trans hf1)
end Go.Proofs.Ytjpbmbonccenfaa
