/- Texts of this seat, one behind the other: PrtQ. -/
import Derived.Test.YtchldahkcpbgcaaGreatDoorsk10
import Derived.Test.YtchldahkcpbgcaaGreatDoorsk11
namespace Go.Proofs.YtchldahkcpbgcaaGreatDoor
set_option linter.unusedVariables false

/- The printer's statement, all kinds: one depth; the induction. -/
section
open Go.RowKit
set_option linter.unusedSimpArgs false
theorem stmtF_plain {x : Nd} {es bs os : List Bs} {lv : Nat} {t : Bs} (h : plainF x.kind x.text = some t) : stmtF x es bs os lv = t ++ es.getD 0 [] ++ [59] := by
 unfold stmtF
 rw [h]
theorem linesB_nil {l : List Nd} {lv : Nat} : linesB l lv = [] ↔ l.length = 0 := by
 unfold linesB
 rw [List.map_eq_nil_iff, List.length_eq_zero_iff]
set_option maxHeartbeats 1600000 in
theorem statement_stepP (n : Nat) (hE : ExprP n) (hS : StmtP n) : StmtP (n + 1) := by
 intro b bs k o x h lv inFn w hN hH hkb hx ho hp hlen hlv
 have hSt := statements_stepP n hS
 have hs : x.text.size ≤ 1000000000 := Nat.le_trans (okB_len ho).1 (by omega)
 have hk : 14 ≤ x.kind ∧ x.kind ≤ 27 := by simpa [isStmtK] using hx
 have hpl : ∀ (r : Rul) (t : Bs), ruleOf x.kind = some r → r.least = 1 → plainF x.kind x.text = some t → Calls Tryz.prog 194 #[pat b, .pointer (some ⟨k, o, none⟩), .int .i64 lv] w (Prs b bs (x.stmtB lv) w) := by
  intro r t hr hl ht
  obtain ⟨_, h1, h2, h3, _, _⟩ := okB_rule ho r hr
  rw [hl] at h1
  have h1 : 1 ≤ x.subs.length := by omega
  obtain ⟨kb, off, hA, hkb2, hi⟩ := hH.subs.first (by omega)
  obtain ⟨y, hy, hy0, hNy, hHy⟩ := hi 0 (by omega)
  rw [stmtB_eq, stmtF_plain ht, exprsB_at hy0] at hlen ⊢
  exact stmt_plain w hN hH hkb hp hs hE kb off y hy hA h1 (by simpa using hNy) hHy hkb2 (ls_at h3 hy0).1 (ls_at h3 hy0).2 t ht hlen hlv
 have hc : (x.kind = 14 ∨ x.kind = 15 ∨ x.kind = 19 ∨ x.kind = 20 ∨ x.kind = 22 ∨ x.kind = 23 ∨ x.kind = 24 ∨ x.kind = 25 ∨ x.kind = 26 ∨ x.kind = 27) ∨ x.kind = 16 ∨ x.kind = 17 ∨ x.kind = 18 ∨ x.kind = 21 := by omega
 rcases hc with hk | hk | hk | hk | hk
 ·rcases hk with hk | hk | hk | hk | hk | hk | hk | hk | hk | hk
  ·exact hpl _ _ (by rw [hk]; rfl) rfl (by rw [hk]; rfl)
  ·exact hpl _ _ (by rw [hk]; rfl) rfl (by rw [hk]; rfl)
  ·exact hpl _ _ (by rw [hk]; rfl) rfl (by rw [hk]; rfl)
  ·exact hpl _ _ (by rw [hk]; rfl) rfl (by rw [hk]; rfl)
  ·exact hpl _ _ (by rw [hk]; rfl) rfl (by rw [hk]; rfl)
  ·exact hpl _ _ (by rw [hk]; rfl) rfl (by rw [hk]; rfl)
  ·exact hpl _ _ (by rw [hk]; rfl) rfl (by rw [hk]; rfl)
  ·exact hpl _ _ (by rw [hk]; rfl) rfl (by rw [hk]; rfl)
  ·exact hpl _ _ (by rw [hk]; rfl) rfl (by rw [hk]; rfl)
  ·exact hpl _ _ (by rw [hk]; rfl) rfl (by rw [hk]; rfl)
 ·obtain ⟨_, h1, h2, h3, _, _⟩ := okB_rule ho ⟨0, 3, 3, false, false, false⟩ (by rw [hk]; rfl)
  have h1 : 3 ≤ x.subs.length := by have h1 : (3 : Int) ≤ x.subs.length := h1; omega
  obtain ⟨kb, off, hA, hkb2, hi⟩ := hH.subs.first (by omega)
  obtain ⟨y, hy, hy0, hNy, hHy⟩ := hi 0 (by omega)
  obtain ⟨z, hz, hz0, hNz, hHz⟩ := hi 1 (by omega)
  obtain ⟨u, hu, hu0, hNu, hHu⟩ := hi 2 (by omega)
  have e : x.stmtB lv = opnd [3, 4] x (exprsB x.subs lv) 0 ++ [91] ++ (exprsB x.subs lv).getD 1 [] ++ [93] ++ [32, 61, 32] ++ (exprsB x.subs lv).getD 2 [] ++ [59] := by rw [stmtB_eq]; unfold stmtF; rw [hk]; rfl
  rw [e, opnd_at hy0, exprsB_at hz0, exprsB_at hu0] at hlen ⊢
  exact stmt_k16 w hN hH hkb hp hs hE kb off y hy hA (by omega) (by simpa using hNy) hHy hkb2 (ls_at h3 hy0).1 (ls_at h3 hy0).2 z hz (by omega) (by simpa using hNz) hHz (ls_at h3 hz0).1 (ls_at h3 hz0).2 u hu h1 (by simpa using hNu) hHu (ls_at h3 hu0).1 (ls_at h3 hu0).2 hk hlen hlv
 ·obtain ⟨_, h1, h2, h3, h4, h5⟩ := okB_rule ho ⟨0, 1, 1, true, true, false⟩ (by rw [hk]; rfl)
  rw [Bool.or_false] at h4
  have h1 : 1 ≤ x.subs.length := by have h1 : (1 : Int) ≤ x.subs.length := h1; omega
  obtain ⟨kb, off, hA, hkb2, hi⟩ := hH.subs.first (by omega)
  obtain ⟨y, hy, hy0, hNy, hHy⟩ := hi 0 (by omega)
  by_cases h0 : x.els.length = 0
  ·have e : x.stmtB lv = [105, 102, 32] ++ (exprsB x.subs lv).getD 0 [] ++ blockB lv (linesB x.body (lv + 1)) [125] := by
    rw [stmtB_eq]; unfold stmtF; rw [hk]; show [105, 102, 32] ++ _ ++ _ ++ (if linesB x.els (lv + 1) = [] then [] else _) = _; rw [if_pos (linesB_nil.2 h0), List.append_nil]
   rw [e, exprsB_at hy0] at hlen ⊢
   exact stmt_k17a w hN hH hkb hp hs hE hSt kb off y hy hA h1 (by simpa using hNy) hHy hkb2 (ls_at h3 hy0).1 (ls_at h3 hy0).2 hk h4 h5 h0 hlen hlv
  ·have e : x.stmtB lv = [105, 102, 32] ++ (exprsB x.subs lv).getD 0 [] ++ blockB lv (linesB x.body (lv + 1)) [125] ++ ([32, 101, 108, 115, 101] ++ blockB lv (linesB x.els (lv + 1)) [125]) := by
    rw [stmtB_eq]; unfold stmtF; rw [hk]; show [105, 102, 32] ++ _ ++ _ ++ (if linesB x.els (lv + 1) = [] then [] else _) = _; rw [if_neg (fun h => h0 (linesB_nil.1 h))]
   rw [e, exprsB_at hy0] at hlen ⊢
   exact stmt_k17b w hN hH hkb hp hs hE hSt kb off y hy hA h1 (by simpa using hNy) hHy hkb2 (ls_at h3 hy0).1 (ls_at h3 hy0).2 hk h4 h5 (by omega) hlen hlv
 ·obtain ⟨_, h1, h2, h3, h4, h5⟩ := okB_rule ho ⟨0, 1, 1, true, false, false⟩ (by rw [hk]; rfl)
  rw [Bool.or_false] at h4
  have h1 : 1 ≤ x.subs.length := by have h1 : (1 : Int) ≤ x.subs.length := h1; omega
  obtain ⟨kb, off, hA, hkb2, hi⟩ := hH.subs.first (by omega)
  obtain ⟨y, hy, hy0, hNy, hHy⟩ := hi 0 (by omega)
  have e : x.stmtB lv = [119, 104, 105, 108, 101, 32] ++ (exprsB x.subs lv).getD 0 [] ++ blockB lv (linesB x.body (lv + 1)) [125] := by rw [stmtB_eq]; unfold stmtF; rw [hk]; rfl
  rw [e, exprsB_at hy0] at hlen ⊢
  exact stmt_k18 w hN hH hkb hp hs hE hSt kb off y hy hA h1 (by simpa using hNy) hHy hkb2 (ls_at h3 hy0).1 (ls_at h3 hy0).2 hk h4 h5 hlen hlv
 ·obtain ⟨_, h1, h2, h3, h4, h5⟩ := okB_rule ho ⟨1, 0, 0, true, true, false⟩ (by rw [hk]; rfl)
  rw [Bool.or_false] at h4
  have e : x.stmtB lv = [116, 114, 121] ++ blockB lv (linesB x.body (lv + 1)) ([125, 32, 99, 97, 116, 99, 104, 32] ++ sb x.text) ++ blockB lv (linesB x.els (lv + 1)) [125] := by rw [stmtB_eq]; unfold stmtF; rw [hk]; rfl
  rw [e] at hlen ⊢
  exact stmt_k21 w hN hH hkb hp hs hSt hk h4 h5 hlen hlv
theorem prints (n : Nat) : ExprP n ∧ StmtP n := by
  induction n with
  | zero =>
    refine ⟨fun b bs k o x h lv inFn w _ hH => ?_, fun b bs k o x h lv inFn w _ hH => ?_⟩
    · exact absurd hH.subs id
    · exact absurd hH.subs id
  | succ n ih => exact ⟨expr_stepP n ih.1 ih.2, statement_stepP n ih.1 ih.2⟩
end

end Go.Proofs.YtchldahkcpbgcaaGreatDoor
