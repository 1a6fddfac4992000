/- Texts of this seat, one behind the other: Src. -/
import Derived.Test.YtjpbmbonccenfaaDoorZSurp30
import Derived.Test.YtjpbmbonccenfaaDoorZSurp31
/- The searches for sets, asked to their end (plain). -/
namespace Go.Proofs.YtjpbmbonccenfaaDoor
open Go.RowKit
set_option linter.unusedVariables false

/-- One of the searches: 0 List, 1 Counted, 2 Difference, else Changes without needs. -/
noncomputable def lawT (wh n : Nat) (start : Int) : Tr (List Int) Int Res := if wh = 0 then listT n else if wh = 1 then countT (startOf start) n else if wh = 2 then differT n else changesT (List.replicate n [])
noncomputable def lawOf (wh : Nat) (n start : Int) (ans : List Int) : Qst × Int :=
  if wh = 0 then listOf n ans else if wh = 1 then countedOf n start ans else if wh = 2 then differenceOf n ans else changesOf (List.replicate n.toNat []) ans
section
variable {wh n : Nat} {start : Int} {o : List Int → Int}
theorem ckN_free : ∀ (n : Nat) (m i : Int), ckN m i (List.replicate n []) = 0
  | 0, _, _ => rfl
  | n + 1, m, i => by
    rw [List.replicate_succ, ckN, if_neg (by simp [isSet_nil])]
    exact ckN_free n m (i + 1)
theorem free_needs (h : n ≤ 256) : checkNeeds (List.replicate n []) = 0 := by
  unfold checkNeeds
  rw [if_neg (by simp; omega)]
  exact ckN_free _ _ _
theorem needs_free (x : Int) : needsOf (List.replicate n []) x = [] := by
  unfold needsOf
  rw [List.getD_eq_getElem?_getD, List.getElem?_replicate]
  split <;> rfl
theorem wout_free (set : List Int) (x : Int) : wout (List.replicate n []) set x = minus set [x] := by
  unfold wout minus
  refine List.filter_congr fun y _ => ?_
  have : goneB (List.replicate n []) set x y = decide (y = x) := by
    rw [Bool.eq_iff_iff, goneB_iff, decide_eq_true_iff]
    constructor
    · intro h
      have := h (fun z => decide (z = x)) (by simp) (fun z _ y hy => by rw [needs_free] at hy; cases hy)
      simpa using this
    · rintro rfl D h _
      exact h
  rw [this]
  by_cases h : y = x <;> simp [h]
theorem Tr.all_imp {P Q : List Int → Prop} (hPQ : ∀ q, P q → Q q) (t : Tr (List Int) Int Res) : t.All P → t.All Q := by
  induction t with
  | ret a => exact fun h => h
  | ask q k ih => exact fun h => ⟨hPQ q h.1, fun a => ih a (h.2 a)⟩
theorem lawT_all (h : n ≤ 256) : (lawT wh n start).All fun q => isSet n q = true := by
  unfold lawT
  obtain ⟨s1, s2⟩ := startOf_in start
  by_cases h0 : wh = 0
  · rw [if_pos h0]; exact listT_all n
  · rw [if_neg h0]
    by_cases h1 : wh = 1
    · rw [if_pos h1]; exact countT_all s1 s2 h
    · rw [if_neg h1]
      by_cases h2 : wh = 2
      · rw [if_pos h2]; exact differT_all h
      · rw [if_neg h2]
        have := changesT_all (free_needs h)
        rw [List.length_replicate] at this
        exact Tr.all_imp (fun q hq => hq.1) _ this
theorem lawOf_eq {n : Int} (h : n ≤ 256) (ans : List Int) : lawOf wh n start ans = qOf ans (lawT wh n.toNat start) := by
  have hn : ¬ 256 < n := by omega
  have e1 : listOf n ans = qOf ans (listT n.toNat) := if_neg hn
  have e2 : countedOf n start ans = qOf ans (countT (startOf start) n.toNat) := if_neg hn
  have e3 : differenceOf n ans = qOf ans (differT n.toNat) := if_neg hn
  have e4 : changesOf (List.replicate n.toNat []) ans = qOf ans (changesT (List.replicate n.toNat [])) := if_neg (by rw [free_needs (by omega)]; simp)
  unfold lawOf lawT
  rw [e1, e2, e3, e4]
  by_cases h0 : wh = 0
  · rw [if_pos h0, if_pos h0]
  · rw [if_neg h0, if_neg h0]
    by_cases h1 : wh = 1
    · rw [if_pos h1, if_pos h1]
    · rw [if_neg h1, if_neg h1]
      by_cases h2 : wh = 2
      · rw [if_pos h2, if_pos h2]
      · rw [if_neg h2, if_neg h2]
/-- What a search asks of an oracle. -/
noncomputable def lawAsks (wh n : Nat) (start : Int) (o : List Int → Int) : List (List Int) := (lawT wh n start).asks o []
/-- What it comes to. -/
noncomputable def lawRes (wh n : Nat) (start : Int) (o : List Int → Int) : Qst × Int :=
  endOf false [] ((lawT wh n start).res o).1 false ((lawT wh n start).res o).2.1 ((lawT wh n start).res o).2.2
theorem lawAsks_few (h : n ≤ 12) : (lawAsks wh n start o).length ≤ 2 ^ n := asks_few o _ (lawT_all (by omega))
theorem lawAsks_le (h : n ≤ 12) : (lawAsks wh n start o).length ≤ 4096 :=
  Nat.le_trans (lawAsks_few h) (Nat.le_trans (Nat.pow_le_pow_right (by omega) h) (by decide))
theorem lawAsks_set (h : n ≤ 12) {q : List Int} (hq : q ∈ lawAsks wh n start o) : isSet n q = true := Tr.asks_all o _ [] (lawT_all (by omega)) q hq
theorem lawAsks_at {n : Int} (h : n ≤ 12) (ho : ∀ q, told (o q) = o q) {k : Nat} {q : List Int} (hq : (lawAsks wh n.toNat start o)[k]? = some q) :
    lawOf wh n start (((lawAsks wh n.toNat start o).take k).map o) = (⟨false, q, [], []⟩, 0) := by
  obtain ⟨hk, hqe⟩ := List.getElem?_eq_some_iff.1 hq
  have hl := lawAsks_le (wh := wh) (start := start) (o := o) (n := n.toNat) (by omega)
  rw [lawOf_eq (by omega)]
  refine qOf_stop ho (rest := (lawAsks wh n.toNat start o).drop (k + 1)) ?_ (by rw [List.length_take]; omega)
  show lawAsks wh n.toNat start o = _
  have e1 := (List.take_append_drop k (lawAsks wh n.toNat start o)).symm
  rw [List.drop_eq_getElem_cons hk, hqe] at e1
  exact e1
theorem lawAsks_end {n : Int} (h : n ≤ 12) (ho : ∀ q, told (o q) = o q) : lawOf wh n start ((lawAsks wh n.toNat start o).map o) = lawRes wh n.toNat start o := by
  have hl := lawAsks_le (wh := wh) (start := start) (o := o) (n := n.toNat) (by omega)
  rw [lawOf_eq (by omega)]
  have hl' : ((lawT wh n.toNat start).asks o []).length ≤ 4096 := hl
  have := qOf_whole ho (lawT wh n.toNat start) [] (by simp only [List.length_nil, Nat.add_zero]; exact hl')
  simpa [lawAsks, lawRes] using this
theorem lawAsks_pos : 0 < (lawAsks wh n start o).length := by
  have key : ∀ (q : List Int) (k : Int → Tr (List Int) Int Res), 0 < ((Tr.ask q k).asks o []).length := fun q k => by
    rw [Tr.asks, if_neg (by simp)]; simp
  unfold lawAsks lawT
  by_cases h0 : wh = 0
  · rw [if_pos h0]; exact key _ _
  · rw [if_neg h0]
    by_cases h1 : wh = 1
    · rw [if_pos h1]; exact key _ _
    · rw [if_neg h1]
      by_cases h2 : wh = 2
      · rw [if_pos h2]; exact key _ _
      · rw [if_neg h2]; exact key _ _
theorem lawAsks_nodup : (lawAsks wh n start o).Nodup := Tr.asks_nodup o _ _
/-- The results of the searches for one set. -/
theorem lawT_ok (h : n ≤ 256) (hw : wh ≠ 2) : if o (upTo n) = 2 then SetOk n o ((lawT wh n start).res o) else (lawT wh n start).res o = (7, [], []) := by
  obtain ⟨s1, s2⟩ := startOf_in start
  unfold lawT
  by_cases h0 : wh = 0
  · rw [if_pos h0]; exact listT_ok h o
  · rw [if_neg h0]
    by_cases h1 : wh = 1
    · rw [if_pos h1]; exact countT_ok s1 s2 h o
    · rw [if_neg h1, if_neg hw]
      have := changesT_ok (free_needs h) o
      rw [List.length_replicate] at this
      by_cases hv : o (upTo n) = 2
      · rw [if_pos hv] at this ⊢
        have hs := this.set
        rw [List.length_replicate] at hs
        exact ⟨this.er, this.pass, hs, this.fails, fun x hx => by have := this.min x hx; rwa [wout_free] at this⟩
      · rw [if_neg hv] at this ⊢
        exact this
/-- A result, or none. -/
theorem lawRes_is (h : n ≤ 256) (ho : ∀ q, told (o q) = o q) : (∃ kept pass, (lawT wh n start).res o = (0, kept, pass) ∧ lawRes wh n start o = (⟨true, [], kept, pass⟩, 0)) ∨ ((lawT wh n start).res o = (7, [], []) ∧ lawRes wh n start o = (qNone, 7)) := by
  have key : ∀ r : Res, (lawT wh n start).res o = r → (r.1 = 0 ∨ r = (7, [], [])) → (∃ kept pass, (lawT wh n start).res o = (0, kept, pass) ∧ lawRes wh n start o = (⟨true, [], kept, pass⟩, 0)) ∨ ((lawT wh n start).res o = (7, [], []) ∧ lawRes wh n start o = (qNone, 7)) := by
    intro r hr h0
    unfold lawRes
    rw [hr]
    rcases h0 with h0 | rfl
    · obtain ⟨er, kept, pass⟩ := r
      obtain rfl : er = 0 := h0
      exact .inl ⟨kept, pass, rfl, rfl⟩
    · exact .inr ⟨rfl, rfl⟩
  by_cases h2 : wh = 2
  · subst h2
    have := differT_ok h ho
    have e : lawT 2 n start = differT n := by unfold lawT; rw [if_neg (by decide), if_neg (by decide), if_pos rfl]
    refine key _ rfl ?_
    rw [e]
    by_cases hv : o [] = 1 ∧ o (upTo n) = 2
    · rw [if_pos hv] at this; exact .inl this.er
    · rw [if_neg hv] at this; exact .inr this
  · have := lawT_ok (start := start) (o := o) h h2
    refine key _ rfl ?_
    by_cases hv : o (upTo n) = 2
    · rw [if_pos hv] at this; exact .inl this.er
    · rw [if_neg hv] at this; exact .inr this
/-- More answers than are asked. -/
theorem law_surplus {n : Int} (h : n ≤ 7) (ho : ∀ q, told (o q) = o q) {extra : List Int} (hx : 0 < extra.length ∧ extra.length ≤ 100) (hr : ((lawT wh n.toNat start).res o).1 = 0) :
    lawOf wh n start ((lawAsks wh n.toNat start o).map o ++ extra) = (qNone, 8) := by
  have hl := lawAsks_few (wh := wh) (start := start) (o := o) (n := n.toNat) (by omega)
  have hp : (2 : Nat) ^ n.toNat ≤ 2 ^ 7 := Nat.pow_le_pow_right (by omega) (by omega)
  have hp2 : (2 : Nat) ^ 7 = 128 := by decide
  rw [lawOf_eq (by omega)]
  have := qOf_whole ho (lawT wh n.toNat start) extra (by have : ((lawT wh n.toNat start).asks o []).length ≤ 2 ^ n.toNat := hl; omega)
  unfold lawAsks
  rw [this, hr, decide_eq_true hx.1]
  rfl
theorem law_many {n : Int} (h : n ≤ 256) {ans : List Int} (hx : 4096 < ans.length) : lawOf wh n start ans = (qNone, 3) := by
  rw [lawOf_eq h]
  unfold qOf
  rw [if_pos hx]
end
/-- The oracle that says 'fails' to just the sets that contain a certain one. -/
def hasO (s : List Int) : Orc := ⟨[s], [], 0, 0⟩
theorem hasO_says (s q : List Int) : sayO (hasO s) q = if minus s q = [] then 2 else 1 := by
  have h0 : ¬ mixedOf 0 q / 1048576 % 256 < 0 := by
    have := (mixedOf_in 0 q).1
    omega
  unfold sayO hasO
  rw [if_neg h0]
  simp [contB]
theorem hasO_great (s : List Int) (h : s.length ≤ 60) : greatO (hasO s) = false := by
  unfold greatO hasO sumL
  simp
  omega
theorem minus_nil {s q : List Int} : minus s q = [] ↔ ∀ x ∈ s, x ∈ q := by
  unfold minus
  rw [List.filter_eq_nil_iff]
  simp
theorem upTo_isAll {n : Nat} {s : List Int} (h : isSet n s = true) : ∀ x ∈ s, x ∈ upTo n := fun x hx => mem_upTo.2 ((isSet_iff.1 h).1 x hx)
/-- The search finds the set. -/
theorem law_unique {wh n : Nat} {start : Int} {s : List Int} (hn : n ≤ 256) (hw : wh ≠ 2) (hs : isSet n s = true) : lawRes wh n start (sayO (hasO s)) = (⟨true, [], s, []⟩, 0) := by
  have h := lawT_ok (start := start) (o := sayO (hasO s)) hn hw
  rw [if_pos (by rw [hasO_says, if_pos (minus_nil.2 (upTo_isAll hs))])] at h
  have h1 : ∀ x ∈ s, x ∈ ((lawT wh n start).res (sayO (hasO s))).2.1 := by
    have := h.fails
    rw [hasO_says] at this
    by_cases h0 : minus s ((lawT wh n start).res (sayO (hasO s))).2.1 = []
    · exact minus_nil.1 h0
    · rw [if_neg h0] at this; omega
  have h2 : ∀ x ∈ ((lawT wh n start).res (sayO (hasO s))).2.1, x ∈ s := fun x hx => by
    have := h.min x hx
    rw [hasO_says] at this
    by_cases hxs : x ∈ s
    · exact hxs
    · exfalso
      refine this (if_pos (minus_nil.2 fun y hy => mem_minus.2 ⟨h1 y hy, ?_⟩))
      simp
      rintro rfl
      exact hxs hy
  have he : ((lawT wh n start).res (sayO (hasO s))).2.1 = s := sorted_ext (isSet_iff.1 h.set).2 (isSet_iff.1 hs).2 fun x => ⟨h2 x, h1 x⟩
  unfold lawRes
  rw [h.er, h.pass, he]
  rfl
end Go.Proofs.YtjpbmbonccenfaaDoor
