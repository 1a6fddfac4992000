/- Texts of this seat, one behind the other: PrtS. -/
import Derived.Test.YtchldahkcpbgcaaGreatDoorsk5
import Derived.Test.YtchldahkcpbgcaaGreatDoorsk8
import Derived.Lib.ItoaLen
namespace Go.Proofs.YtchldahkcpbgcaaGreatDoor
set_option linter.unusedVariables false

/- How long written forms are: plain. -/
section
open Go.RowKit
set_option linter.unusedSimpArgs false
mutual
def Nd.sm : Nd → Prop
 | .mk k t m s p b e => ((0 ≤ k ∧ k ≤ 255) ∧ (-9223372036854775808 ≤ m ∧ m ≤ 9223372036854775807)) ∧ smL s ∧ smL b ∧ smL e
def smL : List Nd → Prop
 | [] => True
 | x :: l => x.sm ∧ smL l
end
theorem Nd.sm_eq (x : Nd) : x.sm = (NdOk x ∧ smL x.subs ∧ smL x.body ∧ smL x.els) := by
 cases x
 rw [Nd.sm]
 rfl
theorem smL_iff : ∀ {l : List Nd}, smL l ↔ ∀ x ∈ l, x.sm
 | [] => by simp [smL]
 | x :: l => by rw [smL, smL_iff]; simp
theorem LN.sm {S : Nat → Prop} {w : World} : ∀ {n : Nat} {A : Option Addr} {c : Nat} {l : List Nd}, LN S n w A c l → smL l
  | 0, _, _, _, h => absurd h id
  | n + 1, _, _, l, h => by
    refine smL_iff.2 fun x hx => ?_
    obtain ⟨k, hk, rfl⟩ := List.getElem_of_mem hx
    obtain ⟨b, off, _, _, h1⟩ := h.2.2 (by omega)
    obtain ⟨hd, h2, h3, h4, h5, h6, h7⟩ := h1 k _ (List.getElem?_eq_getElem hk)
    rw [Nd.sm_eq]
    exact ⟨h3, h4.sm, h6.sm, h7.sm⟩
theorem NdH.sm {S : Nat → Prop} {w : World} {n : Nat} {h : HdN} {x : Nd} (hx : NdH S n w h x) : x.sm := by
 rw [Nd.sm_eq]
 exact ⟨hx.ok, hx.subs.sm, hx.body.sm, hx.els.sm⟩
def sumB (es : List Bs) : Nat := (es.map List.length).sum
theorem sumB_cons (a : Bs) (l : List Bs) : sumB (a :: l) = a.length + sumB l := by simp [sumB]
theorem getD3 (es : List Bs) : (es.getD 0 []).length + (es.getD 1 []).length + (es.getD 2 []).length ≤ sumB es := by
 match es with
 | [] => simp [sumB]
 | [a] => simp [sumB]
 | [a, b] => simp [sumB]
 | a :: b :: c :: l => simp [sumB]; omega
theorem getD_drop (es : List Bs) : (es.getD 0 []).length + sumB (es.drop 1) ≤ sumB es ∧ (es.drop 1).length ≤ es.length := by
 cases es with
 | nil => simp [sumB]
 | cons a l => simp [sumB]
theorem parB_le (ks : List Int) (k : Int) (t : Bs) : (parB ks k t).length ≤ t.length + 2 := by
 unfold parB
 split
 ·simp only [List.length_append, List.length_cons, List.length_nil]
  omega
 ·omega
theorem opnd_le (ks : List Int) (x : Nd) (es : List Bs) (i : Nat) : (opnd ks x es i).length ≤ (es.getD i []).length + 2 := parB_le _ _ _
theorem commas_len (es : List Bs) : (commas es).length ≤ sumB es + 2 * es.length := by
  cases es with
  | nil => simp [commas]
  | cons a l =>
    rw [commas, List.length_append, sumB_cons, List.length_cons]
    have : ∀ l : List Bs, (l.map fun y => [44, 32] ++ y).flatten.length = sumB l + 2 * l.length := by
      intro l
      induction l with
      | nil => rfl
      | cons b l ih => simp only [List.map_cons, List.flatten_cons, List.length_append, List.length_cons, List.length_nil, sumB_cons, ih]; omega
    have h := this l
    have h2 : (l.map fun y => ([44, 32] : Bs) ++ y).flatten.length = sumB l + 2 * l.length := h
    omega
theorem callB_len (b : Bs) (es : List Bs) : (callB b es).length ≤ b.length + 2 + (sumB es + 2 * es.length) := by
 unfold callB
 have := commas_len es
 simp only [List.length_append, List.length_cons, List.length_nil]
 omega
theorem stmtsB_len (lv : Nat) (bs : List Bs) : (stmtsB lv bs).length = sumB bs + bs.length * (2 * lv + 1) := by
  induction bs with
  | nil => simp [stmtsB, sumB]
  | cons a l ih =>
    have h : stmtsB lv (a :: l) = indB lv ++ a ++ [10] ++ stmtsB lv l := by simp [stmtsB]
    rw [h, List.length_append, ih, sumB_cons, List.length_cons, Nat.add_mul]
    simp only [List.length_append, List.length_cons, List.length_nil, indB_len]
    omega
theorem joinB_len {ps : List ByteArray} (h : ps.length ≤ 8) (h2 : ∀ p ∈ ps, p.size ≤ 16) : (joinB ps).length ≤ 144 := by
  have h3 := commas_len (ps.map sb)
  have h4 : ∀ ps : List ByteArray, (∀ p ∈ ps, p.size ≤ 16) → sumB (ps.map sb) ≤ 16 * ps.length := by
    intro ps
    induction ps with
    | nil => intro _; simp [sumB]
    | cons a l ih =>
      intro h
      have h5 := ih fun p hp => h p (List.mem_cons_of_mem _ hp)
      have h6 := h a (by simp)
      rw [List.map_cons, sumB_cons, sb_len, List.length_cons]
      omega
  have h5 := h4 ps h2
  rw [List.length_map] at h3
  unfold joinB
  omega
theorem opL_len : ∀ o ∈ opL, o.size ≤ 2 := by decide
theorem nameOk_len {s : ByteArray} (h : nameOk s = true) : s.size ≤ 16 := by
 simp only [nameOk, Bool.and_eq_true, decide_eq_true_eq] at h
 omega
theorem fitsB_len {t : Int} {s : ByteArray} (h : fitsB t s = true) : s.size ≤ 16 := by
 unfold fitsB at h
 split at h
 ·exact nameOk_len h
 ·split at h
  ·simp only [Bool.or_eq_true, decide_eq_true_eq] at h
   rcases h with h | h <;> rw [h] <;> decide
  ·split at h
   ·have := opL_len s (inS_iff.1 h)
    omega
   ·simp only [decide_eq_true_eq] at h
    omega
theorem okB_len {x : Nd} {inFn : Bool} (h : x.okB inFn = true) : x.text.size ≤ 16 ∧ (joinB x.params).length ≤ 144 := by
  cases hr : ruleOf x.kind with
  | none => rw [Nd.okB_none hr] at h; cases h
  | some r =>
    rw [Nd.okB_some hr] at h
    simp only [ownB, Bool.and_eq_true, decide_eq_true_eq] at h
    refine ⟨fitsB_len h.1.1.1.1.1.1, ?_⟩
    have h1 := h.1.1.2.1
    have h2 := h.1.2
    cases hf : r.fn with
    | false =>
      rw [hf] at h1
      simp only [Bool.false_or, decide_eq_true_eq] at h1
      rw [List.eq_nil_of_length_eq_zero h1]
      decide
    | true =>
      rw [hf] at h2
      simp only [Bool.not_true, Bool.false_or, Bool.and_eq_true, paramsB, decide_eq_true_eq, List.all_eq_true] at h2
      exact joinB_len h2.2.1 fun p hp => nameOk_len (h2.2.2 p hp)
theorem exprF_len (x : Nd) (es bs : List Bs) (lv : Nat) (ht : x.text.size ≤ 16) (hp : (joinB x.params).length ≤ 144) (hn : (Lib.itoa x.num).length ≤ 21) :
  (exprF x es bs lv).length ≤ 200 + 2 * lv + (sumB es + 2 * es.length) + (sumB bs + bs.length * (2 * (lv + 1) + 1)) := by
 have h3 := getD3 es
 have h4 := getD_drop es
 have h5 := opnd_le [4] x es 0
 have h6 := opnd_le [4] x es 1
 have h7 := opnd_le [3, 4] x es 0
 have h8 := callB_len (sb x.text) es
 have h9 : (callB ([115, 112, 97, 119, 110, 32] ++ sb x.text) es).length ≤ 6 + (sb x.text).length + 2 + (sumB es + 2 * es.length) := by
  have h := callB_len ([115, 112, 97, 119, 110, 32] ++ sb x.text) es
  rw [List.length_append] at h
  have : ([115, 112, 97, 119, 110, 32] : Bs).length = 6 := rfl
  omega
 have h10 := callB_len [46] (es.drop 1)
 have h11 := callB_len [110, 101, 119] es
 have h12 := callB_len [108, 101, 110] es
 have h13 := stmtsB_len (lv + 1) bs
 have h14 := indB_len lv
 have h15 : ((110 : UInt8) :: [101, 119]).length = 3 := rfl
 have h16 : ((108 : UInt8) :: [101, 110]).length = 3 := rfl
 have h17 : ([46] : Bs).length = 1 := rfl
 rw [← sb_len] at ht
 unfold exprF loadB decB
 by_cases hk : x.kind = 1
 ·rw [if_pos hk]; omega
 rw [if_neg hk]; clear hk
 by_cases hk : x.kind = 2
 ·rw [if_pos hk]; omega
 rw [if_neg hk]; clear hk
 by_cases hk : x.kind = 3
 ·rw [if_pos hk]; simp only [List.length_append]; omega
 rw [if_neg hk]; clear hk
 by_cases hk : x.kind = 4
 ·rw [if_pos hk]; simp only [List.length_append, List.length_cons, List.length_nil]; omega
 rw [if_neg hk]; clear hk
 by_cases hk : x.kind = 5
 ·rw [if_pos hk]; omega
 rw [if_neg hk]; clear hk
 by_cases hk : x.kind = 13
 ·rw [if_pos hk]; omega
 rw [if_neg hk]; clear hk
 by_cases hk : x.kind = 6
 ·rw [if_pos hk]; simp only [List.length_append]; omega
 rw [if_neg hk]; clear hk
 by_cases hk : x.kind = 7
 ·rw [if_pos hk]; omega
 rw [if_neg hk]; clear hk
 by_cases hk : x.kind = 9
 ·rw [if_pos hk]; omega
 rw [if_neg hk]; clear hk
 by_cases hk : x.kind = 8
 ·rw [if_pos hk]; simp only [List.length_append, List.length_cons, List.length_nil]; omega
 rw [if_neg hk]; clear hk
 by_cases hk : x.kind = 11
 ·rw [if_pos hk]; simp only [List.length_cons, List.length_nil]; omega
 rw [if_neg hk]; clear hk
 by_cases hk : x.kind = 12
 ·rw [if_pos hk]; simp only [List.length_cons, List.length_nil]; omega
 rw [if_neg hk]; clear hk
 by_cases hk : x.kind = 10
 ·rw [if_pos hk]; simp only [List.length_append, List.length_cons, List.length_nil]; omega
 rw [if_neg hk]; clear hk
 simp
theorem plainF_len {k : Int} {t : ByteArray} (ht : t.size ≤ 16) {b : Bs} (h : plainF k t = some b) : b.length ≤ 30 := by
 rw [← sb_len] at ht
 unfold plainF at h
 repeat (split at h; · injection h with h; subst h; simp only [List.length_append, List.length_cons, List.length_nil]; omega)
 cases h
theorem blockB_len (lv : Nat) (bs : List Bs) (t : Bs) : (blockB lv bs t).length = 3 + (sumB bs + bs.length * (2 * (lv + 1) + 1)) + 2 * lv + t.length := by
 unfold blockB
 simp only [List.length_append, List.length_cons, List.length_nil, stmtsB_len, indB_len]
theorem stmtF_len (x : Nd) (es bs os : List Bs) (lv : Nat) (ht : x.text.size ≤ 16) :
  (stmtF x es bs os lv).length ≤ 100 + 4 * lv + (sumB es + 2 * es.length) + (sumB bs + bs.length * (2 * (lv + 1) + 1)) + (sumB os + os.length * (2 * (lv + 1) + 1)) := by
 have h3 := getD3 es
 have h7 := opnd_le [3, 4] x es 0
 unfold stmtF
 split
 ·rename_i b hb
  have := plainF_len ht hb
  simp only [List.length_append, List.length_cons, List.length_nil]
  omega
 ·rw [← sb_len] at ht
  unfold loadB
  split
  ·simp only [List.length_append, List.length_cons, List.length_nil]; omega
  split
  ·split
   ·simp only [List.length_append, List.length_cons, List.length_nil, blockB_len]; omega
   ·simp only [List.length_append, List.length_cons, List.length_nil, blockB_len]; omega
  split
  ·simp only [List.length_append, List.length_cons, List.length_nil, blockB_len]; omega
  split
  ·simp only [List.length_append, List.length_cons, List.length_nil, blockB_len]; omega
  ·simp
theorem texts_len (D : Nat) (x : Nd) : ∀ (inFn : Bool) (lv : Nat), x.okB inFn = true → x.sm → lv + x.dep ≤ D → (x.exprB lv).length + 2 ≤ x.cnt * (400 + 10 * D) ∧ (x.stmtB lv).length + (2 * lv + 1) ≤ x.cnt * (400 + 10 * D) := by
  induction x using Nd.ind with
  | h x hs hb he =>
    intro inFn lv ho hsm hd
    have hl := okB_len ho
    rw [Nd.sm_eq] at hsm
    have hn := Lib.itoa_length_le x.num hsm.1.2.1 hsm.1.2.2
    cases hr : ruleOf x.kind with
    | none => rw [Nd.okB_none hr] at ho; cases ho
    | some r =>
      rw [Nd.okB_some hr] at ho
      simp only [Bool.and_eq_true] at ho
      have hde := x.dep_eq
      have S1 : ∀ (l : List Nd), (∀ y ∈ l, (y.exprB lv).length + 2 ≤ y.cnt * (400 + 10 * D)) → sumB (exprsB l lv) + 2 * (exprsB l lv).length ≤ cntL l * (400 + 10 * D) := by
        intro l
        induction l with
        | nil => intro _; simp [exprsB, sumB]
        | cons y l ih =>
          intro h
          have h1 := ih fun z hz => h z (List.mem_cons_of_mem _ hz)
          have h2 := h y (by simp)
          unfold exprsB at h1 ⊢
          rw [List.map_cons, sumB_cons, List.length_cons, cntL, Nat.add_mul]
          omega
      have S2 : ∀ (l : List Nd), (∀ y ∈ l, (y.stmtB (lv + 1)).length + (2 * (lv + 1) + 1) ≤ y.cnt * (400 + 10 * D)) → sumB (linesB l (lv + 1)) + (linesB l (lv + 1)).length * (2 * (lv + 1) + 1) ≤ cntL l * (400 + 10 * D) := by
        intro l
        induction l with
        | nil => intro _; simp [linesB, sumB]
        | cons y l ih =>
          intro h
          have h1 := ih fun z hz => h z (List.mem_cons_of_mem _ hz)
          have h2 := h y (by simp)
          unfold linesB at h1 ⊢
          rw [List.map_cons, sumB_cons, List.length_cons, cntL, Nat.add_mul, Nat.add_mul]
          omega
      have a1 := S1 x.subs fun y hy => (hs y hy inFn lv (lsB_mem hy ho.2.1).2 (smL_iff.1 hsm.2.1 y hy) (by have := depL_mem hy; omega)).1
      have a2 := S2 x.body fun y hy => (hb y hy _ (lv + 1) (lsB_mem hy ho.2.2.1).2 (smL_iff.1 hsm.2.2.1 y hy) (by have := depL_mem hy; omega)).2
      have a3 := S2 x.els fun y hy => (he y hy _ (lv + 1) (lsB_mem hy ho.2.2.2).2 (smL_iff.1 hsm.2.2.2 y hy) (by have := depL_mem hy; omega)).2
      have e1 := exprF_len x (exprsB x.subs lv) (linesB x.body (lv + 1)) lv hl.1 hl.2 hn
      have e2 := stmtF_len x (exprsB x.subs lv) (linesB x.body (lv + 1)) (linesB x.els (lv + 1)) lv hl.1
      rw [exprB_eq, stmtB_eq, Nd.cnt_eq, Nat.add_mul, Nat.add_mul, Nat.add_mul]
      omega
theorem lines_len (D : Nat) (l : List Nd) (inFn : Bool) (lv : Nat) (h : lsB false inFn l = true) (hs : smL l) (hd : lv + depL l ≤ D) : (stmtsB lv (linesB l lv)).length ≤ cntL l * (400 + 10 * D) := by
  rw [stmtsB_len]
  induction l with
  | nil => simp [linesB, sumB]
  | cons y l ih =>
    rw [lsB] at h
    simp only [Bool.and_eq_true] at h
    rw [smL] at hs
    rw [depL] at hd
    have h1 := ih h.2 hs.2 (by omega)
    have h2 := (texts_len D y inFn lv h.1.2 hs.1 (by omega)).2
    unfold linesB at h1 ⊢
    rw [List.map_cons, sumB_cons, List.length_cons, cntL, Nat.add_mul, Nat.add_mul]
    omega
end

end Go.Proofs.YtchldahkcpbgcaaGreatDoor
