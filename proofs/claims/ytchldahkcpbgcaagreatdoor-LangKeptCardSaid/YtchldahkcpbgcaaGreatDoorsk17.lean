/- Texts of this seat, one behind the other: ParA, ParS, ParN, ParB. -/
import Derived.Test.YtchldahkcpbgcaaGreatDoorsk16
import Derived.Deep.LoopGhost
namespace Go.Proofs.YtchldahkcpbgcaaGreatDoor
set_option linter.unusedVariables false

/- args, block of the parser. -/
section
open Go.RowKit
set_option linter.unusedSimpArgs false
section
variable {X : Px} {i j : Nat}
theorem GNd.one {n base : Nat} {w : World} {S : Nat → Prop} {x : Nd} {hd : HdN} (hx : NdH S n w hd x) (hb : base ≤ w.heap.size) : GNd S n base (w.alloc (.cells (ndCells x hd) 46)) (some ⟨w.heap.size, 0, none⟩) 1 [x] [hd] := by
  refine ⟨rfl, ⟨by simp [flatN], .inr ⟨w.heap.size, 1, ndCells x hd, rfl, hb, heap_alloc_new w _, Nat.le_refl _, by unfold maxLen; omega, rfl, ?_⟩⟩, fun k y h e1 e2 => ?_⟩
  · simp [flatN]
  · match k, e1, e2 with
    | 0, e1, e2 =>
      simp at e1 e2
      subst e1 e2
      exact (hx.imp (S' := fun b => S b ∨ RowB (some ⟨w.heap.size, 0, none⟩) b) (Nat.le_refl _) (fun k hk h1 h2 => h2.elim h1 (fun ⟨a, ha, hab⟩ => by injection ha with ha; subst ha; simp at hab; omega)) (fun _ _ _ h => h)).fr0 ((Fr.refl _ _).alloc _)
theorem P_adv {ws : List Wd} {n : Nat} {job : Job} {i : Nat} {l : List Nd} {b : Bool} {j : Nat} (hf : Fine job) (hi : i ≤ ws.length) (h : P ws n job i = some (.ok l b j)) : i + adv job ≤ j ∧ j ≤ ws.length := by
 have h1 := P_mono h (Nat.le_max_left n (20 * (ws.length - i) + rank job))
 have h2 := P_good ws _ job i hf hi (Nat.le_max_right n (20 * (ws.length - i) + rank job))
 rw [h1] at h2
 exact h2
theorem At.grown {w w1 w2 : World} {k : Nat} {row : Option Nat} (h : X.At w j) (h1 : X.At w1 k) (hg : w1.grownBy w2 row) (hr : ∀ b, row = some b → w.heap.size ≤ b) : X.At w2 k := by
 have hf : Fr row.toList w1 w2 := (Fr.refl _ w1).grown hg fun b hb => .inl (by rw [hb]; simp)
 refine At.new h h1 hf fun z hz => hr z ?_
 cases row with
 | none => simp at hz
 | some b => simp at hz; rw [hz]
set_option maxRecDepth 20000 in
set_option maxHeartbeats 3200000 in
theorem args_step {n : Nat} {r : Out} (w : World) (h : X.At w i) (hr : P X.ws (n + 1) .args i = some r)
    (he : ∀ m q k, m ≤ n → P X.ws m .expr k = some q → ∀ w', X.At w' k → Calls Tryz.prog 228 #[X.p] w' (X.R1 w' q)) :
    Calls Tryz.prog 259 #[X.p] w (X.RL w r) := by
  rw [P] at hr
  have hpl := X.lt h
  cases h1 : isW X.ws i (bt [41]) with
  | true =>
    rw [h1, if_pos rfl] at hr
    injection hr with hr
    subst hr
    have HC := Lib.hid (has_ok h h1)
    clear h1 he
    show Calls _ _ _ _ (X.Ls w [] (i + 1))
    go_enter Tryz.func259, Tryz.ntmps259
    go_wp2_with fail
    refine HC.out.mono ?_
    rintro en w1 ⟨rfl, hf1, a1⟩
    go_wp2_with fail
    go_ret
    exact ⟨none, 0, 1, rfl, LN.nil0 _ _ _ _, hf1, a1⟩
  | false =>
    rw [h1, if_neg (by simp)] at hr
    have HC := Lib.hid (has_no h h1)
    have HH := Lib.hid he
    clear h1 he
    cases hq : P X.ws n .expr i with
    | none => rw [hq] at hr; cases hr
    | some q =>
      rw [hq] at hr
      have HQ := Lib.hid (HH.out n q i (Nat.le_refl _) hq)
      have hqq := Lib.hid hq
      clear hq
      cases q with
      | bad k =>
        have hr : some (Out.bad k) = some r := hr
        injection hr with hr
        subst hr
        have HE : Hid (∀ w', X.At w' i → Calls Tryz.prog 228 #[X.p] w' (X.Bad w' k)) := HQ
        show Calls _ _ _ _ (X.Bad w k)
        go_enter Tryz.func259, Tryz.ntmps259
        go_wp2_with fail
        refine HC.out.mono ?_
        rintro en w1 ⟨rfl, hf1, a1⟩
        go_wp2_with fail
        refine (HE.out _ a1).mono ?_
        rintro en w2 ⟨rfl, hf2⟩
        go_wp2_with fail
        exact ⟨rfl, rfl, hf1.trans hf2⟩
      | ok l b k =>
        have hadv := (P_adv (job := .expr) trivial h.le hqq.out).1
        simp only [adv] at hadv
        have HR : Hid (P X.ws n (.argsL [hd1 l]) k = some r) := hr
        have HE : Hid (∀ w', X.At w' i → Calls Tryz.prog 228 #[X.p] w' (X.Nd1 w' (hd1 l) k)) := HQ
        clear hr HQ
        generalize hd1 l = x at *
        go_enter Tryz.func259, Tryz.ntmps259
        go_wp2_with fail
        refine HC.out.mono ?_
        rintro en w1 ⟨rfl, hf1, a1⟩
        go_wp2_with fail
        refine (HE.out _ a1).mono ?_
        rintro en w2 ⟨hd, n2, rfl, hx, hf2, a2⟩
        have hz1 := hf1.size
        have hz2 := hf2.size
        go_wp2_with fail
        go_loopg [3] n (fun gk v wr => ∃ (acc : List Nd) (A : Option Addr) (c : Nat) (hs : List HdN) (nn k : Nat), gk ≤ n ∧ acc.length ≤ k ∧ v = .slice A acc.length c ∧ GNd (Bel w) nn w.heap.size wr A c acc hs ∧ X.At wr k ∧ Hid (P X.ws gk (.argsL acc) k = some r) ∧ Fr [X.pb] w wr)
        case atStart => exact ⟨[x], _, 1, [hd], n2, k, Nat.le_refl _, by simp; omega, rfl, GNd.one (hx.sub fun k _ hk => by show k < w1.heap.size; have : k < w.heap.size := hk; omega) (by omega), a2.fr0 ((Fr.refl _ _).alloc _), HR, ((hf1.trans hf2).alloc _)⟩
        case round =>
          obtain ⟨acc, A, c, hs, nn, k, hgk, hal, rfl, hG, hk, HP, hf⟩ := hrel
          cases gk with
          | zero => exact absurd HP.out (by simp [P])
          | succ m =>
            have hp := HP.out
            rw [P] at hp
            clear HP
            cases h1 : isW X.ws k (bt [44]) with
            | false =>
              rw [h1, if_neg (by simp)] at hp
              have H1 := Lib.hid h1
              clear h1
              cases h2 : isW X.ws k (bt [41]) with
              | false =>
                rw [h2, if_neg (by simp)] at hp
                injection hp with hp
                subst hp
                have H2 := Lib.hid h2
                clear h2
                go_wp2_with fail
                refine (has_no hk H1.out).mono ?_
                rintro en w3 ⟨rfl, hf3, a3⟩
                go_wp2_with fail
                refine (take_bad a3 H2.out).mono ?_
                rintro en w4 ⟨rfl, hf4⟩
                go_wp2_with fail
                exact ⟨rfl, rfl, (hf.trans hf3).trans hf4⟩
              | true =>
                rw [h2, if_pos rfl] at hp
                injection hp with hp
                subst hp
                have H2 := Lib.hid h2
                clear h2
                go_wp2_with fail
                refine (has_no hk H1.out).mono ?_
                rintro en w3 ⟨rfl, hf3, a3⟩
                go_wp2_with fail
                refine (take_ok a3 H2.out).mono ?_
                rintro en w4 ⟨rfl, hf4, a4⟩
                have hG4 := (hG.fr hf3 (fun k hk => by simp at hk; subst hk; exact hpl) (fun k hk => by simp at hk; subst hk; exact hpl)).fr hf4 (fun k hk => by simp at hk; subst hk; exact hpl) (fun k hk => by simp at hk; subst hk; exact hpl)
                go_wp2_with fail
                go_ret
                exact ⟨A, c, nn + 1, rfl, hG4.ln (fun k hk h => by have : k < w.heap.size := h; omega), (hf.trans hf3).trans hf4, a4⟩
            | true =>
              rw [h1, if_pos rfl] at hp
              have H1 := Lib.hid h1
              have hlt := isW_lt h1
              clear h1
              cases hq : P X.ws m .expr (k + 1) with
              | none => rw [hq] at hp; cases hp
              | some q =>
                rw [hq] at hp
                have HQ := Lib.hid (HH.out m q (k + 1) (by omega) hq)
                have hqq := Lib.hid hq
                clear hq
                cases q with
                | bad k2 =>
                  have hp : some (Out.bad k2) = some r := hp
                  injection hp with hp
                  subst hp
                  have HE : Hid (∀ w', X.At w' (k + 1) → Calls Tryz.prog 228 #[X.p] w' (X.Bad w' k2)) := HQ
                  go_wp2_with fail
                  refine (has_ok hk H1.out).mono ?_
                  rintro en w3 ⟨rfl, hf3, a3⟩
                  go_wp2_with fail
                  refine (HE.out _ a3).mono ?_
                  rintro en w4 ⟨rfl, hf4⟩
                  go_wp2_with fail
                  exact ⟨rfl, rfl, (hf.trans hf3).trans hf4⟩
                | ok l2 b2 k2 =>
                  have hadv2 := (P_adv (job := .expr) trivial (by omega) hqq.out).1
                  simp only [adv] at hadv2
                  have HP2 : Hid (P X.ws m (.argsL (acc ++ [hd1 l2])) k2 = some r) := hp
                  have HE : Hid (∀ w', X.At w' (k + 1) → Calls Tryz.prog 228 #[X.p] w' (X.Nd1 w' (hd1 l2) k2)) := HQ
                  clear hp HQ hqq
                  generalize hd1 l2 = y at *
                  have hml := X.hm
                  have hal2 : acc.length ≤ 1000000 := by omega
                  go_wp2_with fail
                  refine (has_ok hk H1.out).mono ?_
                  rintro en w3 ⟨rfl, hf3, a3⟩
                  go_wp2_with fail
                  refine (HE.out _ a3).mono ?_
                  rintro en w4 ⟨hd2, n4, rfl, hy, hf4, a4⟩
                  have hz3 := hf3.size
                  have hz4 := hf4.size
                  have hzf := hf.size
                  have hG4 := ((hG.mono (Nat.le_max_left nn n4)).fr hf3 (fun k hk => by simp at hk; subst hk; exact hpl) (fun k hk => by simp at hk; subst hk; exact hpl)).fr hf4 (fun k hk => by simp at hk; subst hk; exact hpl) (fun k hk => by simp at hk; subst hk; exact hpl)
                  have hrow : ∀ b, RowB A b → b < w3.heap.size := fun b ⟨a, ha, hab⟩ => by
                    subst ha hab
                    have := (hG.own.lt a.block rfl).2
                    omega
                  have hf5 : Fr [] w4 (w4.alloc (.cells (ndCells y hd2) 46)) := (Fr.refl _ _).alloc _
                  have hG5 := hG4.fr0 hf5
                  have hy5 := (hy.mono (Nat.le_max_right nn n4)).fr0 hf5
                  have hB5 : Blk (w4.alloc (.cells (ndCells y hd2) 46)) w4.heap.size 46 (ndCells y hd2) := Blk.new _ _ _ _ rfl
                  have hc5 : Cells (w4.alloc (.cells (ndCells y hd2) 46)) (some ⟨w4.heap.size, 0, none⟩) (ndL y hd2) := fun _ => ⟨w4.heap.size, 0, rfl, fun j u hu => by rw [Nat.zero_add]; exact hB5.cell j (by simpa using hu)⟩
                  go_wp2_with (at_builtin; refine wpList_append_g rfl (.tmp 11) (.tmp 14) _ rfl elemNd (.slice A acc.length c) (flatN acc hs) rfl hG5.own (some ⟨w4.heap.size, 0, none⟩) 1 1 (ndL y hd2) rfl hc5 rfl (Nat.le_refl _) (ndL_one _ _) ?c2 ?c3 ?_)
                  case c2 => omega
                  case c3 => simp; omega
                  intro A6 c6 w6 ho6 hg6 hat6
                  have hF4 : Fr [X.pb] w w4 := (hf.trans hf3).trans hf4
                  have hF6 : Fr [X.pb] w w6 := Fr.app (hF4.alloc _) hG5.own (Nat.le_refl _) hg6
                  have hG6 := hG5.app (b0 := w3.heap.size) hy5 hrow (fun k hk => by have : k < w.heap.size := hk; omega) (by simp; omega) hg6 ho6 (by simpa using hat6)
                  have a6 : X.At w6 k2 := At.grown h (a4.fr0 hf5) hg6 (fun b hb => (hG5.own.lt b hb).1)
                  clear hG4 hG5 hy5 hB5 hc5 hy ho6 hg6 hat6
                  go_wp2_with fail
                  go_roundg m
                  case measure => omega
                  case rel => exact ⟨acc ++ [y], A6, c6, hs ++ [hd2], max nn n4, k2, by omega, by simp; omega, by simp, hG6, a6, HP2, hF6⟩
end
end

/- names of the parser. -/
section
open Go.RowKit
set_option linter.unusedSimpArgs false
theorem elemStN : Elem Tryz.prog 44 9 (.string ⟨#[]⟩) 1 16 := ⟨Tryz.underlying44, by kernel_rfl, rfl, by omega, by omega⟩
def nmAt (ws : List Wd) (k : Nat) (acc : List ByteArray) : (List ByteArray × Nat) ⊕ Nat := nmL (ws.drop k) acc k
theorem nmAt_eq (ws : List Wd) (k : Nat) (acc : List ByteArray) : nmAt ws k acc = if isW ws k (bt [44]) then (match nameW ws (k + 1) with | none => .inr (k + 1) | some t => nmAt ws (k + 2) (acc ++ [t]))
    else if isW ws k (bt [41]) then .inl (acc, k + 1) else .inr k := by
  have h0 : ws[k]? = (ws.drop k)[0]? := by rw [List.getElem?_drop]; rfl
  have h1 : ws[k + 1]? = (ws.drop k)[1]? := by rw [List.getElem?_drop]
  have h2 : ws.drop (k + 2) = (ws.drop k).drop 2 := by rw [List.drop_drop]
  unfold nmAt isW nameW
  rw [h0, h1, h2]
  generalize ws.drop k = l
  match l with
  | [] => rfl
  | [w] =>
    rw [nmL]
    rfl
  | w :: v :: l =>
    rw [nmL]
    simp only [List.getElem?_cons_zero, List.getElem?_cons_succ, List.drop_succ_cons, List.drop_zero]
    by_cases hv : v.what = 0
    · rw [if_pos hv, if_pos hv]
      rfl
    · rw [if_neg hv, if_neg hv]
      rfl
section
variable {X : Px} {i j : Nat}
def Px.Nm (X : Px) (w : World) : (List ByteArray × Nat) ⊕ Nat → Ending → World → Prop
 | .inl (l, k) => fun en w' => ∃ A' c', en = .returned (.slice A' l.length c') ∧ RdS (Bel w) w' .string A' c' l ∧ Fr [X.pb] w w' ∧ X.At w' k
 | .inr k => X.Bad w k
set_option maxRecDepth 20000 in
set_option maxHeartbeats 3200000 in
theorem names_step {r : (List ByteArray × Nat) ⊕ Nat} (w : World) (h : X.At w i) (hr : namesW X.ws i = r) :
    Calls Tryz.prog 187 #[X.p] w (X.Nm w r) := by
  unfold namesW at hr
  have hpl := X.lt h
  cases h1 : isW X.ws i (bt [40]) with
  | false =>
    rw [h1, if_neg (by simp)] at hr
    subst hr
    have HC := Lib.hid (take_bad h h1)
    clear h1
    show Calls _ _ _ _ (X.Bad w i)
    go_enter Tryz.func187, Tryz.ntmps187
    go_wp2_with fail
    refine HC.out.mono ?_
    rintro en w1 ⟨rfl, hf1⟩
    go_wp2_with fail
    exact ⟨rfl, rfl, hf1⟩
  | true =>
    rw [h1, if_pos rfl] at hr
    have HC := Lib.hid (take_ok h h1)
    clear h1
    cases h2 : isW X.ws (i + 1) (bt [41]) with
    | true =>
      rw [h2, if_pos rfl] at hr
      subst hr
      have H2 := Lib.hid h2
      clear h2
      show Calls _ _ _ _ (fun en w' => _)
      go_enter Tryz.func187, Tryz.ntmps187
      go_wp2_with fail
      refine HC.out.mono ?_
      rintro en w1 ⟨rfl, hf1, a1⟩
      go_wp2_with fail
      refine (has_ok a1 H2.out).mono ?_
      rintro en w2 ⟨rfl, hf2, a2⟩
      go_wp2_with fail
      go_ret
      exact ⟨none, 0, rfl, ⟨Rd.nil_ _ _, fun h => by simp at h⟩, hf1.trans hf2, a2⟩
    | false =>
      rw [h2, if_neg (by simp)] at hr
      have H2 := Lib.hid h2
      clear h2
      cases h3 : nameW X.ws (i + 1) with
      | none =>
        rw [h3] at hr
        simp only at hr
        subst hr
        have H3 := Lib.hid h3
        clear h3
        show Calls _ _ _ _ (X.Bad w (i + 1))
        go_enter Tryz.func187, Tryz.ntmps187
        go_wp2_with fail
        refine HC.out.mono ?_
        rintro en w1 ⟨rfl, hf1, a1⟩
        go_wp2_with fail
        refine (has_no a1 H2.out).mono ?_
        rintro en w2 ⟨rfl, hf2, a2⟩
        go_wp2_with fail
        refine (name_bad a2 H3.out).mono ?_
        rintro en w3 ⟨rfl, hf3⟩
        go_wp2_with fail
        exact ⟨rfl, rfl, (hf1.trans hf2).trans hf3⟩
      | some t =>
        rw [h3] at hr
        have HR : Hid (nmAt X.ws (i + 2) [t] = r) := hr
        have H3 := Lib.hid h3
        have hl3 := nameW_lt h3
        clear h3 hr
        go_enter Tryz.func187, Tryz.ntmps187
        go_wp2_with fail
        refine HC.out.mono ?_
        rintro en w1 ⟨rfl, hf1, a1⟩
        go_wp2_with fail
        refine (has_no a1 H2.out).mono ?_
        rintro en w2 ⟨rfl, hf2, a2⟩
        go_wp2_with fail
        refine (name_ok a2 H3.out).mono ?_
        rintro en w3 ⟨rfl, hf3, a3⟩
        have hz1 := hf1.size
        have hz2 := hf2.size
        have hz3 := hf3.size
        go_wp2_with fail
        go_loopg [3] (X.ws.length) (fun gk v wr => ∃ (acc : List ByteArray) (A : Option Addr) (c k : Nat), gk + k = X.ws.length + i + 2 ∧ acc.length ≤ k ∧ v = .slice A acc.length c ∧ wr.ownsRow w.heap.size 9 1 v acc.length (acc.map .string) ∧ X.At wr k ∧ Hid (nmAt X.ws k acc = r) ∧ Fr [X.pb] w wr)
        case atStart => exact ⟨[t], _, 1, i + 2, by omega, by simp, rfl, own_base (own_one _ _ _ _ rfl) (by omega), a3.fr0 ((Fr.refl _ _).alloc _), HR, (((hf1.trans hf2).trans hf3).alloc _)⟩
        case round =>
          obtain ⟨acc, A, c, k, hgk, hal, rfl, hG, hk, HP, hf⟩ := hrel
          have hp := HP.out
          rw [nmAt_eq] at hp
          clear HP
          cases h1 : isW X.ws k (bt [44]) with
          | false =>
            rw [h1, if_neg (by simp)] at hp
            have H1 := Lib.hid h1
            clear h1
            cases h2 : isW X.ws k (bt [41]) with
            | false =>
              rw [h2, if_neg (by simp)] at hp
              subst hp
              have H2 := Lib.hid h2
              clear h2
              go_wp2_with fail
              refine (has_no hk H1.out).mono ?_
              rintro en w3 ⟨rfl, hf3, a3⟩
              go_wp2_with fail
              refine (take_bad a3 H2.out).mono ?_
              rintro en w4 ⟨rfl, hf4⟩
              go_wp2_with fail
              exact ⟨rfl, rfl, (hf.trans hf3).trans hf4⟩
            | true =>
              rw [h2, if_pos rfl] at hp
              subst hp
              have H2 := Lib.hid h2
              clear h2
              go_wp2_with fail
              refine (has_no hk H1.out).mono ?_
              rintro en w3 ⟨rfl, hf3, a3⟩
              go_wp2_with fail
              refine (take_ok a3 H2.out).mono ?_
              rintro en w4 ⟨rfl, hf4, a4⟩
              have hZ : ∀ k, (Value.slice A acc.length c).ownBlock = some k → k ∉ [X.pb] := fun k hk hm => by
                simp at hm
                subst hm
                have := (hG.lt _ hk).1
                omega
              have hG4 := own_fr (own_fr hG hf3 hZ) hf4 hZ
              go_wp2_with fail
              go_ret
              exact ⟨A, c, rfl, ⟨(Rd.of_own hG4).2, fun h0 a ha hb => by
                subst ha
                have := (hG4.lt a.block rfl).1
                have : a.block < w.heap.size := hb
                omega⟩, (hf.trans hf3).trans hf4, a4⟩
          | true =>
            rw [h1, if_pos rfl] at hp
            have H1 := Lib.hid h1
            have hlt := isW_lt h1
            clear h1
            cases h2 : nameW X.ws (k + 1) with
            | none =>
              rw [h2] at hp
              simp only at hp
              subst hp
              have H2 := Lib.hid h2
              clear h2
              go_wp2_with fail
              refine (has_ok hk H1.out).mono ?_
              rintro en w3 ⟨rfl, hf3, a3⟩
              go_wp2_with fail
              refine (name_bad a3 H2.out).mono ?_
              rintro en w4 ⟨rfl, hf4⟩
              go_wp2_with fail
              exact ⟨rfl, rfl, (hf.trans hf3).trans hf4⟩
            | some t2 =>
              rw [h2] at hp
              have HP2 : Hid (nmAt X.ws (k + 2) (acc ++ [t2]) = r) := hp
              have hl2 := nameW_lt h2
              have H2 := Lib.hid h2
              clear h2 hp
              have hml := X.hm
              have hal2 : acc.length ≤ 1000000 := by omega
              go_wp2_with fail
              refine (has_ok hk H1.out).mono ?_
              rintro en w3 ⟨rfl, hf3, a3⟩
              go_wp2_with fail
              refine (name_ok a3 H2.out).mono ?_
              rintro en w4 ⟨rfl, hf4, a4⟩
              have hz3 := hf3.size
              have hz4 := hf4.size
              have hzf := hf.size
              have hZ : ∀ k, (Value.slice A acc.length c).ownBlock = some k → k ∉ [X.pb] := fun k hk hm => by
                simp at hm
                subst hm
                have := (hG.lt _ hk).1
                omega
              have hf5 : Fr [] w4 (w4.alloc (.cells #[.string t2] 9)) := (Fr.refl _ _).alloc _
              have hG5 := own_fr (own_fr (own_fr hG hf3 hZ) hf4 hZ) hf5 (by simp)
              go_wp2_with (at_builtin; refine wpList_append_rd rfl (.tmp 13) (.tmp 16) _ rfl elemStN (.slice A acc.length c) (acc.map .string) rfl hG5 (some ⟨w4.heap.size, 0, none⟩) 1 [t2] .string rfl (Rd.one w4 _ _ _) (fun _ => rfl) ?c2 ?c3 ?_)
              case c2 => simp; omega
              case c3 => simp; omega
              intro A6 c6 w6 ho6 hg6 hat6
              have hF4 : Fr [X.pb] w w4 := (hf.trans hf3).trans hf4
              have hF6 : Fr [X.pb] w w6 := Fr.app (hF4.alloc _) hG5 (Nat.le_refl _) hg6
              have a6 : X.At w6 (k + 2) := At.grown h (a4.fr0 hf5) hg6 (fun b hb => (hG5.lt b hb).1)
              clear hG5 hat6 hg6
              go_wp2_with fail
              go_roundg (gk - 2)
              case measure => omega
              case rel => exact ⟨acc ++ [t2], A6, c6, k + 2, by omega, by simp; omega, by simp, by simpa using ho6, a6, HP2, hF6⟩
end
end

/- unary of the parser (printed by gen/unary.py). -/
section
open Go.RowKit
set_option linter.unusedSimpArgs false
section
variable {X : Px} {i j : Nat}
theorem isW_text {ws : List Wd} {s : ByteArray} (h : isW ws i s = true) : textAt ws i = s := by
 rw [isW_eq] at h
 simp only [Bool.and_eq_true, decide_eq_true_eq] at h
 exact h.2
set_option maxRecDepth 20000 in
set_option maxHeartbeats 6400000 in
theorem unary_step {n : Nat} {r : Out} (w : World) (h : X.At w i) (hr : P X.ws (n + 1) .unary i = some r)
    (hu : ∀ q k, P X.ws n .unary k = some q → ∀ w', X.At w' k → Calls Tryz.prog 254 #[X.p] w' (X.R2 w' q))
    (hp : ∀ q, P X.ws n .pfx i = some q → ∀ w', X.At w' i → Calls Tryz.prog 257 #[X.p] w' (X.R2 w' q)) :
    Calls Tryz.prog 254 #[X.p] w (X.R2 w r) := by
  rw [P] at hr
  obtain ⟨V, hV⟩ : ∃ V, V = w.alloc (.cells zeroN 46) := ⟨_, rfl⟩
  have hf0 : Fr [] w V := by rw [hV]; exact frx
  have hB1 : Blk V w.heap.size 46 zeroN := by rw [hV]; exact Blk.new _ _ _ _ rfl
  have hpl := X.lt h
  have hz := hf0.size
  have hVz : w.heap.size < V.heap.size := hB1.lt
  have hV0 := h.fr0 hf0
  have HV := Lib.hid hV.symm
  have HK := Lib.hid (peek_any V hV0 X.hm)
  clear hV
  cases h1 : isW X.ws i (bt [45]) with
  | true =>
    rw [h1, if_pos rfl] at hr
    have H1 := Lib.hid h1
    cases hq : P X.ws n .unary (i + 1) with
    | none => rw [hq] at hr; cases hr
    | some q =>
      rw [hq] at hr
      have HE := Lib.hid (hu q (i + 1) hq)
      have hT : textAt X.ws i = bt [45] := isW_text h1
      clear hu hp hq h1
      generalize placeAt X.ws X.e i = pt at HK
      generalize kindAt X.ws i = kt at HK
      rw [hT] at HK
      generalize hTT : bt [45] = tt at HK hr
      clear hT
      cases q with
      | bad k =>
        have hr : some (Out.bad k) = some r := hr
        injection hr with hr
        subst hr
        have HE : Hid (∀ w', X.At w' (i + 1) → Calls Tryz.prog 254 #[X.p] w' (X.Bad w' k)) := HE
        show Calls _ _ _ _ (X.Bad w k)
        go_enter Tryz.func254, Tryz.ntmps254
        go_wp2_with fail
        rw [HV.out]
        refine HK.out.mono ?_
        rintro en w1 ⟨rfl, hf1⟩
        have hz1 := hf1.size
        have hW1 : Fr [] w1 (w1.alloc (.cells #[.int .u8 kt, .string tt, .int .i64 pt] 183)) := (Fr.refl _ _).alloc _
        have a1 := (hV0.fr0 hf1).fr0 hW1
        go_wp2_with fail
        refine (has_ok a1 H1.out).mono ?_
        rintro en w2 ⟨rfl, hf2, a2⟩
        have hz2 := hf2.size
        have hF2 : Fr [X.pb] w w2 := (((hf0.trans hf1).trans hW1).mono (by simp)).trans hf2
        go_wp2_with fail
        refine (HE.out _ a2).mono ?_
        rintro en w3 ⟨rfl, hf3⟩
        go_wp2_with fail
        exact ⟨rfl, rfl, hF2.trans hf3⟩
      | ok l b k =>
        have hr : some (Out.ok [ndk 3 tt [hd1 l]] false k) = some r := hr
        injection hr with hr
        subst hr
        have HE : Hid (∀ w', X.At w' (i + 1) → Calls Tryz.prog 254 #[X.p] w' (X.Nd2 w' (hd1 l) b k)) := HE
        show Calls _ _ _ _ (X.Nd2 w (ndk 3 tt [hd1 l]) false k)
        generalize hd1 l = x at *
        go_enter Tryz.func254, Tryz.ntmps254
        go_wp2_with fail
        rw [HV.out]
        refine HK.out.mono ?_
        rintro en w1 ⟨rfl, hf1⟩
        have hz1 := hf1.size
        have hW1 : Fr [] w1 (w1.alloc (.cells #[.int .u8 kt, .string tt, .int .i64 pt] 183)) := (Fr.refl _ _).alloc _
        have a1 := (hV0.fr0 hf1).fr0 hW1
        go_wp2_with fail
        refine (has_ok a1 H1.out).mono ?_
        rintro en w2 ⟨rfl, hf2, a2⟩
        have hz2 := hf2.size
        have hF2 : Fr [X.pb] w w2 := (((hf0.trans hf1).trans hW1).mono (by simp)).trans hf2
        go_wp2_with fail
        refine (HE.out _ a2).mono ?_
        rintro en w3 ⟨hd, nn, rfl, hx, hf3, a3⟩
        have hz3 := hf3.size
        have hF3 := hF2.trans hf3
        have hs1 : w1.heap.size < w2.heap.size := by
          have h5 := hf2.size
          simp at h5
          omega
        have hE : Fr [] w3 (w3.alloc (.cells (ndCells x hd) 46)) := (Fr.refl _ _).alloc _
        have hG : Fr [] (w3.alloc (.cells (ndCells x hd) 46)) ((w3.alloc (.cells (ndCells x hd) 46)).alloc (.cells (ndCells x hd) 46)) := (Fr.refl _ _).alloc _
        have hD0 : Blk w3 w.heap.size 46 zeroN := (((hB1.fr hf1 (by simp)).fr hW1 (by simp)).fr hf2 (by simp; omega)).fr hf3 (by simp; omega)
        have hWd : Blk w3 w1.heap.size 183 #[.int .u8 kt, .string tt, .int .i64 pt] := ((Blk.new w1 _ _ _ rfl).fr hf2 (by simp; omega)).fr hf3 (by simp; omega)
        have hD1 := (hD0.fr hE (by simp)).fr hG (by simp)
        have wd1 := (hWd.fr hE (by simp)).cell 1 rfl
        have hN1 : Blk (w3.alloc (.cells (ndCells x hd) 46)) w3.heap.size 46 (ndCells x hd) := Blk.new _ _ _ _ rfl
        have hB3 : Blk ((w3.alloc (.cells (ndCells x hd) 46)).alloc (.cells (ndCells x hd) 46)) (w3.heap.size + 1) 46 (ndCells x hd) := Blk.new _ _ _ _ (by simp)
        have hx4 := (hx.fr0 hE).fr0 hG
        have c0 := hD1.cell 0 rfl
        have c1 := hD1.cell 1 rfl
        have c2 := hD1.cell 2 rfl
        have c3 := hD1.cell 3 rfl
        have c4 := hD1.cell 4 rfl
        have c5 := hD1.cell 5 rfl
        have c6 := hD1.cell 6 rfl
        have cz0 := hD1.frozen 0
        have cz1 := hD1.frozen 1
        have cz2 := hD1.frozen 2
        have cz3 := hD1.frozen 3
        have cz4 := hD1.frozen 4
        have cz5 := hD1.frozen 5
        have cz6 := hD1.frozen 6
        have d0 := hN1.cell 0 rfl
        have d1 := hN1.cell 1 rfl
        have d2 := hN1.cell 2 rfl
        have d3 := hN1.cell 3 rfl
        have d4 := hN1.cell 4 rfl
        have d5 := hN1.cell 5 rfl
        have d6 := hN1.cell 6 rfl
        have dz0 := hN1.frozen 0
        have dz1 := hN1.frozen 1
        have dz2 := hN1.frozen 2
        have dz3 := hN1.frozen 3
        have dz4 := hN1.frozen 4
        have dz5 := hN1.frozen 5
        have dz6 := hN1.frozen 6
        go_wp2_with fail
        refine bodyPost_ret (results_node2 (x := ndk 3 tt [x]) (hd := ⟨some ⟨w3.heap.size + 1, 0, none⟩, 1, none, 0, none, 0, none, 0⟩) rfl _ _ w.heap.size rfl (hD1.node _ _ _ _ _ _ _)) rfl ?_
        have hS : Fr [w.heap.size] ((w3.alloc (.cells (ndCells x hd) 46)).alloc (.cells (ndCells x hd) 46)) _ := fr_node1 _ w.heap.size (.int .u8 3) (.string tt) (.int .i64 0) (.slice (some ⟨w3.heap.size + 1, 0, none⟩) 1 1) (.slice none 0 0) (.slice none 0 0) (.slice none 0 0)
        refine ⟨⟨some ⟨w3.heap.size + 1, 0, none⟩, 1, none, 0, none, 0, none, 0⟩, nn + 1, rfl, NdH.sub_ (by omega) ?_, fr_node ((hF3.trans (hE.mono (by simp))).trans (hG.mono (by simp))) (.inr (Nat.le_refl _)) _ _ _ _ _ _ _, At.new h ((a3.fr0 hE).fr0 hG) hS (by simp)⟩
        refine LN.one (hB3.fr hS (by simp; omega)) (fun hb => by have : w3.heap.size + 1 < w.heap.size := hb; omega) ?_
        exact (hx4.fr hS (fun k hk => by simp at hk; subst hk; show w.heap.size < w2.heap.size; omega)).sub fun k _ hk => by show k < w2.heap.size; have : k < w.heap.size := hk; omega
  | false =>
    rw [h1, if_neg (by simp)] at hr
    cases h2 : isW X.ws i (bt [33]) with
    | true =>
      rw [h2, if_pos rfl] at hr
      have H0 := Lib.hid h1
      have H1 := Lib.hid h2
      cases hq : P X.ws n .unary (i + 1) with
      | none => rw [hq] at hr; cases hr
      | some q =>
        rw [hq] at hr
        have HE := Lib.hid (hu q (i + 1) hq)
        have hT : textAt X.ws i = bt [33] := isW_text h2
        clear hu hp hq h1 h2
        generalize placeAt X.ws X.e i = pt at HK
        generalize kindAt X.ws i = kt at HK
        rw [hT] at HK
        generalize hTT : bt [33] = tt at HK hr
        clear hT
        cases q with
        | bad k =>
          have hr : some (Out.bad k) = some r := hr
          injection hr with hr
          subst hr
          have HE : Hid (∀ w', X.At w' (i + 1) → Calls Tryz.prog 254 #[X.p] w' (X.Bad w' k)) := HE
          show Calls _ _ _ _ (X.Bad w k)
          go_enter Tryz.func254, Tryz.ntmps254
          go_wp2_with fail
          rw [HV.out]
          refine HK.out.mono ?_
          rintro en w1 ⟨rfl, hf1⟩
          have hz1 := hf1.size
          have hW1 : Fr [] w1 (w1.alloc (.cells #[.int .u8 kt, .string tt, .int .i64 pt] 183)) := (Fr.refl _ _).alloc _
          have a1 := (hV0.fr0 hf1).fr0 hW1
          go_wp2_with fail
          refine (has_no a1 H0.out).mono ?_
          rintro en w20 ⟨rfl, hf20, a20⟩
          go_wp2_with fail
          refine (has_ok a20 H1.out).mono ?_
          rintro en w2 ⟨rfl, hf21, a2⟩
          have hf2 := hf20.trans hf21
          have hz2 := hf2.size
          have hF2 : Fr [X.pb] w w2 := (((hf0.trans hf1).trans hW1).mono (by simp)).trans hf2
          go_wp2_with fail
          refine (HE.out _ a2).mono ?_
          rintro en w3 ⟨rfl, hf3⟩
          go_wp2_with fail
          exact ⟨rfl, rfl, hF2.trans hf3⟩
        | ok l b k =>
          have hr : some (Out.ok [ndk 3 tt [hd1 l]] false k) = some r := hr
          injection hr with hr
          subst hr
          have HE : Hid (∀ w', X.At w' (i + 1) → Calls Tryz.prog 254 #[X.p] w' (X.Nd2 w' (hd1 l) b k)) := HE
          show Calls _ _ _ _ (X.Nd2 w (ndk 3 tt [hd1 l]) false k)
          generalize hd1 l = x at *
          go_enter Tryz.func254, Tryz.ntmps254
          go_wp2_with fail
          rw [HV.out]
          refine HK.out.mono ?_
          rintro en w1 ⟨rfl, hf1⟩
          have hz1 := hf1.size
          have hW1 : Fr [] w1 (w1.alloc (.cells #[.int .u8 kt, .string tt, .int .i64 pt] 183)) := (Fr.refl _ _).alloc _
          have a1 := (hV0.fr0 hf1).fr0 hW1
          go_wp2_with fail
          refine (has_no a1 H0.out).mono ?_
          rintro en w20 ⟨rfl, hf20, a20⟩
          go_wp2_with fail
          refine (has_ok a20 H1.out).mono ?_
          rintro en w2 ⟨rfl, hf21, a2⟩
          have hf2 := hf20.trans hf21
          have hz2 := hf2.size
          have hF2 : Fr [X.pb] w w2 := (((hf0.trans hf1).trans hW1).mono (by simp)).trans hf2
          go_wp2_with fail
          refine (HE.out _ a2).mono ?_
          rintro en w3 ⟨hd, nn, rfl, hx, hf3, a3⟩
          have hz3 := hf3.size
          have hF3 := hF2.trans hf3
          have hs1 : w1.heap.size < w2.heap.size := by
            have h5 := hf2.size
            simp at h5
            omega
          have hE : Fr [] w3 (w3.alloc (.cells (ndCells x hd) 46)) := (Fr.refl _ _).alloc _
          have hG : Fr [] (w3.alloc (.cells (ndCells x hd) 46)) ((w3.alloc (.cells (ndCells x hd) 46)).alloc (.cells (ndCells x hd) 46)) := (Fr.refl _ _).alloc _
          have hD0 : Blk w3 w.heap.size 46 zeroN := (((hB1.fr hf1 (by simp)).fr hW1 (by simp)).fr hf2 (by simp; omega)).fr hf3 (by simp; omega)
          have hWd : Blk w3 w1.heap.size 183 #[.int .u8 kt, .string tt, .int .i64 pt] := ((Blk.new w1 _ _ _ rfl).fr hf2 (by simp; omega)).fr hf3 (by simp; omega)
          have hD1 := (hD0.fr hE (by simp)).fr hG (by simp)
          have wd1 := (hWd.fr hE (by simp)).cell 1 rfl
          have hN1 : Blk (w3.alloc (.cells (ndCells x hd) 46)) w3.heap.size 46 (ndCells x hd) := Blk.new _ _ _ _ rfl
          have hB3 : Blk ((w3.alloc (.cells (ndCells x hd) 46)).alloc (.cells (ndCells x hd) 46)) (w3.heap.size + 1) 46 (ndCells x hd) := Blk.new _ _ _ _ (by simp)
          have hx4 := (hx.fr0 hE).fr0 hG
          have c0 := hD1.cell 0 rfl
          have c1 := hD1.cell 1 rfl
          have c2 := hD1.cell 2 rfl
          have c3 := hD1.cell 3 rfl
          have c4 := hD1.cell 4 rfl
          have c5 := hD1.cell 5 rfl
          have c6 := hD1.cell 6 rfl
          have cz0 := hD1.frozen 0
          have cz1 := hD1.frozen 1
          have cz2 := hD1.frozen 2
          have cz3 := hD1.frozen 3
          have cz4 := hD1.frozen 4
          have cz5 := hD1.frozen 5
          have cz6 := hD1.frozen 6
          have d0 := hN1.cell 0 rfl
          have d1 := hN1.cell 1 rfl
          have d2 := hN1.cell 2 rfl
          have d3 := hN1.cell 3 rfl
          have d4 := hN1.cell 4 rfl
          have d5 := hN1.cell 5 rfl
          have d6 := hN1.cell 6 rfl
          have dz0 := hN1.frozen 0
          have dz1 := hN1.frozen 1
          have dz2 := hN1.frozen 2
          have dz3 := hN1.frozen 3
          have dz4 := hN1.frozen 4
          have dz5 := hN1.frozen 5
          have dz6 := hN1.frozen 6
          go_wp2_with fail
          refine bodyPost_ret (results_node2 (x := ndk 3 tt [x]) (hd := ⟨some ⟨w3.heap.size + 1, 0, none⟩, 1, none, 0, none, 0, none, 0⟩) rfl _ _ w.heap.size rfl (hD1.node _ _ _ _ _ _ _)) rfl ?_
          have hS : Fr [w.heap.size] ((w3.alloc (.cells (ndCells x hd) 46)).alloc (.cells (ndCells x hd) 46)) _ := fr_node1 _ w.heap.size (.int .u8 3) (.string tt) (.int .i64 0) (.slice (some ⟨w3.heap.size + 1, 0, none⟩) 1 1) (.slice none 0 0) (.slice none 0 0) (.slice none 0 0)
          refine ⟨⟨some ⟨w3.heap.size + 1, 0, none⟩, 1, none, 0, none, 0, none, 0⟩, nn + 1, rfl, NdH.sub_ (by omega) ?_, fr_node ((hF3.trans (hE.mono (by simp))).trans (hG.mono (by simp))) (.inr (Nat.le_refl _)) _ _ _ _ _ _ _, At.new h ((a3.fr0 hE).fr0 hG) hS (by simp)⟩
          refine LN.one (hB3.fr hS (by simp; omega)) (fun hb => by have : w3.heap.size + 1 < w.heap.size := hb; omega) ?_
          exact (hx4.fr hS (fun k hk => by simp at hk; subst hk; show w.heap.size < w2.heap.size; omega)).sub fun k _ hk => by show k < w2.heap.size; have : k < w.heap.size := hk; omega
    | false =>
      rw [h2, if_neg (by simp)] at hr
      have H0 := Lib.hid h1
      have H1 := Lib.hid h2
      have HE := Lib.hid (hp r hr)
      clear hu hp hr h1 h2
      generalize placeAt X.ws X.e i = pt at HK
      generalize kindAt X.ws i = kt at HK
      generalize textAt X.ws i = tt at HK
      cases r with
      | bad k =>
        have HE : Hid (∀ w', X.At w' i → Calls Tryz.prog 257 #[X.p] w' (X.Bad w' k)) := HE
        show Calls _ _ _ _ (X.Bad w k)
        go_enter Tryz.func254, Tryz.ntmps254
        go_wp2_with fail
        rw [HV.out]
        refine HK.out.mono ?_
        rintro en w1 ⟨rfl, hf1⟩
        have hz1 := hf1.size
        have hW1 : Fr [] w1 (w1.alloc (.cells #[.int .u8 kt, .string tt, .int .i64 pt] 183)) := (Fr.refl _ _).alloc _
        have a1 := (hV0.fr0 hf1).fr0 hW1
        go_wp2_with fail
        refine (has_no a1 H0.out).mono ?_
        rintro en w20 ⟨rfl, hf20, a20⟩
        go_wp2_with fail
        refine (has_no a20 H1.out).mono ?_
        rintro en w2 ⟨rfl, hf21, a2⟩
        have hf2 := hf20.trans hf21
        have hz2 := hf2.size
        have hF2 : Fr [X.pb] w w2 := (((hf0.trans hf1).trans hW1).mono (by simp)).trans hf2
        go_wp2_with fail
        refine (HE.out _ a2).mono ?_
        rintro en w3 ⟨rfl, hf3⟩
        go_wp2_with fail
        exact ⟨rfl, rfl, hF2.trans hf3⟩
      | ok l b k =>
        have HE : Hid (∀ w', X.At w' i → Calls Tryz.prog 257 #[X.p] w' (X.Nd2 w' (hd1 l) b k)) := HE
        show Calls _ _ _ _ (X.Nd2 w (hd1 l) b k)
        generalize hd1 l = x at *
        go_enter Tryz.func254, Tryz.ntmps254
        go_wp2_with fail
        rw [HV.out]
        refine HK.out.mono ?_
        rintro en w1 ⟨rfl, hf1⟩
        have hz1 := hf1.size
        have hW1 : Fr [] w1 (w1.alloc (.cells #[.int .u8 kt, .string tt, .int .i64 pt] 183)) := (Fr.refl _ _).alloc _
        have a1 := (hV0.fr0 hf1).fr0 hW1
        go_wp2_with fail
        refine (has_no a1 H0.out).mono ?_
        rintro en w20 ⟨rfl, hf20, a20⟩
        go_wp2_with fail
        refine (has_no a20 H1.out).mono ?_
        rintro en w2 ⟨rfl, hf21, a2⟩
        have hf2 := hf20.trans hf21
        have hz2 := hf2.size
        have hF2 : Fr [X.pb] w w2 := (((hf0.trans hf1).trans hW1).mono (by simp)).trans hf2
        go_wp2_with fail
        refine (HE.out _ a2).mono ?_
        rintro en w3 ⟨hd, nn, rfl, hx, hf3, a3⟩
        have hz3 := hf3.size
        have hF3 := hF2.trans hf3
        have hs1 : w1.heap.size < w2.heap.size := by
          have h5 := hf2.size
          simp at h5
          omega
        have hD1 : Blk w3 w.heap.size 46 zeroN := (((hB1.fr hf1 (by simp)).fr hW1 (by simp)).fr hf2 (by simp; omega)).fr hf3 (by simp; omega)
        have c0 := hD1.cell 0 rfl
        have c1 := hD1.cell 1 rfl
        have c2 := hD1.cell 2 rfl
        have c3 := hD1.cell 3 rfl
        have c4 := hD1.cell 4 rfl
        have c5 := hD1.cell 5 rfl
        have c6 := hD1.cell 6 rfl
        have cz0 := hD1.frozen 0
        have cz1 := hD1.frozen 1
        have cz2 := hD1.frozen 2
        have cz3 := hD1.frozen 3
        have cz4 := hD1.frozen 4
        have cz5 := hD1.frozen 5
        have cz6 := hD1.frozen 6
        go_wp2_with fail
        refine bodyPost_ret (results_node2 rfl _ _ w.heap.size rfl (hD1.node _ _ _ _ _ _ _)) rfl ?_
        have hS := fr_node1 w3 w.heap.size (.int .u8 x.kind) (.string x.text) (.int .i64 x.num) (.slice hd.As x.subs.length hd.cs) (.slice hd.Ap x.params.length hd.cp) (.slice hd.Ab x.body.length hd.cb) (.slice hd.Ae x.els.length hd.ce)
        refine ⟨hd, nn, rfl, ?_, fr_node hF3 (.inr (Nat.le_refl _)) _ _ _ _ _ _ _, At.new h a3 hS (by simp)⟩
        exact (hx.fr hS (fun k hk => by simp at hk; subst hk; show w.heap.size < w2.heap.size; omega)).sub fun k _ hk => by show k < w2.heap.size; have : k < w.heap.size := hk; omega
end
end

/- block of the parser (printed by gen/blk.py). -/
section
open Go.RowKit
set_option linter.unusedSimpArgs false
section
variable {X : Px} {i j : Nat}
set_option maxRecDepth 20000 in
set_option maxHeartbeats 3200000 in
theorem block_step {n : Nat} {r : Out} (w : World) (h : X.At w i) (hr : P X.ws (n + 1) .block i = some r)
    (he : ∀ m q k, m ≤ n → P X.ws m .stmt k = some q → ∀ w', X.At w' k → Calls Tryz.prog 214 #[X.p] w' (X.R1 w' q)) :
    Calls Tryz.prog 188 #[X.p] w (X.RL w r) := by
  rw [P] at hr
  have hpl := X.lt h
  cases h1 : isW X.ws i (bt [123]) with
  | false =>
    rw [h1, if_neg (by simp)] at hr
    injection hr with hr
    subst hr
    have HC := Lib.hid (take_bad h h1)
    clear h1 he
    show Calls _ _ _ _ (X.Bad w i)
    go_enter Tryz.func188, Tryz.ntmps188
    go_wp2_with fail
    refine HC.out.mono ?_
    rintro en w1 ⟨rfl, hf1⟩
    go_wp2_with fail
    exact ⟨rfl, rfl, hf1⟩
  | true =>
    rw [h1, if_pos rfl] at hr
    have HC := Lib.hid (take_ok h h1)
    have HH := Lib.hid he
    have HR : Hid (P X.ws n (.blockL []) (i + 1) = some r) := hr
    clear h1 he hr
    go_enter Tryz.func188, Tryz.ntmps188
    go_wp2_with fail
    refine HC.out.mono ?_
    rintro en w1 ⟨rfl, hf1, a1⟩
    have hz1 := hf1.size
    go_wp2_with fail
    go_loopg [3] n (fun gk v wr => ∃ (acc : List Nd) (A : Option Addr) (c : Nat) (hs : List HdN) (nn k : Nat), gk ≤ n ∧ acc.length ≤ k ∧ v = .slice A acc.length c ∧ GNd (Bel w) nn w.heap.size wr A c acc hs ∧ X.At wr k ∧ Hid (P X.ws gk (.blockL acc) k = some r) ∧ Fr [X.pb] w wr)
    case atStart => exact ⟨[], none, 0, [], 1, i + 1, Nat.le_refl _, by simp, rfl, GNd.nil _ _ _ _, a1, HR, hf1⟩
    case round =>
      obtain ⟨acc, A, c, hs, nn, k, hgk, hal, rfl, hG, hk, HP, hf⟩ := hrel
      cases gk with
      | zero => exact absurd HP.out (by simp [P])
      | succ m =>
        have hp := HP.out
        rw [P] at hp
        clear HP
        cases h1 : isW X.ws k (bt [125]) with
        | true =>
          rw [h1, if_pos rfl] at hp
          injection hp with hp
          subst hp
          have H1 := Lib.hid h1
          clear h1
          go_wp2_with fail
          refine (has_ok hk H1.out).mono ?_
          rintro en w3 ⟨rfl, hf3, a3⟩
          have hG4 := (hG.fr hf3 (fun k hk => by simp at hk; subst hk; exact hpl) (fun k hk => by simp at hk; subst hk; exact hpl))
          go_wp2_with fail
          go_ret
          exact ⟨A, c, nn + 1, rfl, hG4.ln (fun k hk h => by have : k < w.heap.size := h; omega), hf.trans hf3, a3⟩
        | false =>
          rw [h1, if_neg (by simp)] at hp
          have H1 := Lib.hid h1
          clear h1
          cases hq : P X.ws m .stmt k with
          | none => rw [hq] at hp; cases hp
          | some q =>
            rw [hq] at hp
            have HQ := Lib.hid (HH.out m q k (by omega) hq)
            have hqq := Lib.hid hq
            clear hq
            cases q with
            | bad k2 =>
              have hp : some (Out.bad k2) = some r := hp
              injection hp with hp
              subst hp
              have HE : Hid (∀ w', X.At w' k → Calls Tryz.prog 214 #[X.p] w' (X.Bad w' k2)) := HQ
              go_wp2_with fail
              refine (has_no hk H1.out).mono ?_
              rintro en w3 ⟨rfl, hf3, a3⟩
              go_wp2_with fail
              refine (HE.out _ a3).mono ?_
              rintro en w4 ⟨rfl, hf4⟩
              go_wp2_with fail
              exact ⟨rfl, rfl, (hf.trans hf3).trans hf4⟩
            | ok l2 b2 k2 =>
              have hadv2 := (P_adv (job := .stmt) trivial hk.le hqq.out).1
              simp only [adv] at hadv2
              have HP2 : Hid (P X.ws m (.blockL (acc ++ [hd1 l2])) k2 = some r) := hp
              have HE : Hid (∀ w', X.At w' k → Calls Tryz.prog 214 #[X.p] w' (X.Nd1 w' (hd1 l2) k2)) := HQ
              clear hp HQ hqq
              generalize hd1 l2 = y at *
              have hml := X.hm
              have hkl := hk.le
              have hal2 : acc.length ≤ 1000000 := by omega
              go_wp2_with fail
              refine (has_no hk H1.out).mono ?_
              rintro en w3 ⟨rfl, hf3, a3⟩
              go_wp2_with fail
              refine (HE.out _ a3).mono ?_
              rintro en w4 ⟨hd2, n4, rfl, hy, hf4, a4⟩
              have hz3 := hf3.size
              have hz4 := hf4.size
              have hzf := hf.size
              have hG4 := ((hG.mono (Nat.le_max_left nn n4)).fr hf3 (fun k hk => by simp at hk; subst hk; exact hpl) (fun k hk => by simp at hk; subst hk; exact hpl)).fr hf4 (fun k hk => by simp at hk; subst hk; exact hpl) (fun k hk => by simp at hk; subst hk; exact hpl)
              have hrow : ∀ b, RowB A b → b < w3.heap.size := fun b ⟨a, ha, hab⟩ => by
                subst ha hab
                have := (hG.own.lt a.block rfl).2
                omega
              have hf5 : Fr [] w4 (w4.alloc (.cells (ndCells y hd2) 46)) := (Fr.refl _ _).alloc _
              have hG5 := hG4.fr0 hf5
              have hy5 := (hy.mono (Nat.le_max_right nn n4)).fr0 hf5
              have hB5 : Blk (w4.alloc (.cells (ndCells y hd2) 46)) w4.heap.size 46 (ndCells y hd2) := Blk.new _ _ _ _ rfl
              have hc5 : Cells (w4.alloc (.cells (ndCells y hd2) 46)) (some ⟨w4.heap.size, 0, none⟩) (ndL y hd2) := fun _ => ⟨w4.heap.size, 0, rfl, fun j u hu => by rw [Nat.zero_add]; exact hB5.cell j (by simpa using hu)⟩
              go_wp2_with (at_builtin; refine wpList_append_g rfl (.tmp 9) (.tmp 12) _ rfl elemNd (.slice A acc.length c) (flatN acc hs) rfl hG5.own (some ⟨w4.heap.size, 0, none⟩) 1 1 (ndL y hd2) rfl hc5 rfl (Nat.le_refl _) (ndL_one _ _) ?c2 ?c3 ?_)
              case c2 => omega
              case c3 => simp; omega
              intro A6 c6 w6 ho6 hg6 hat6
              have hF4 : Fr [X.pb] w w4 := (hf.trans hf3).trans hf4
              have hF6 : Fr [X.pb] w w6 := Fr.app (hF4.alloc _) hG5.own (Nat.le_refl _) hg6
              have hG6 := hG5.app (b0 := w3.heap.size) hy5 hrow (fun k hk => by have : k < w.heap.size := hk; omega) (by simp; omega) hg6 ho6 (by simpa using hat6)
              have a6 : X.At w6 k2 := At.grown h (a4.fr0 hf5) hg6 (fun b hb => (hG5.own.lt b hb).1)
              clear hG4 hG5 hy5 hB5 hc5 hy ho6 hg6 hat6
              go_wp2_with fail
              go_roundg m
              case measure => omega
              case rel => exact ⟨acc ++ [y], A6, c6, hs ++ [hd2], max nn n4, k2, by omega, by simp; omega, by simp, hG6, a6, HP2, hF6⟩
end
end

end Go.Proofs.YtchldahkcpbgcaaGreatDoor
