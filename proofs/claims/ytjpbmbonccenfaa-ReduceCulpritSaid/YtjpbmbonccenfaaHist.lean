/- Histories: which are valid; ancestors, the plain side. -/
import Derived.Test.YtjpbmbonccenfaaRNeeds
import Derived.Test.YtjpbmbonccenfaaSets
namespace Go.Proofs.Ytjpbmbonccenfaa
open Go.RowKit
set_option linter.unusedVariables false

/-- The first error of a history, from version i on. -/
def ckH : Int → List (List Int) → Int
  | _, [] => 0
  | i, l :: ls => if isSet i l = false then 1 else ckH (i + 1) ls
/-- CheckHistory. -/
def checkHist (L : List (List Int)) : Int := if 256 < L.length then 3 else ckH 0 L
theorem ckH_at {L : List (List Int)} {k : Nat} {l : List Int} (h : Hid (L[k]? = some l)) : ckH k (L.drop k) = if isSet k l = false then 1 else ckH (k + 1) (L.drop (k + 1)) := by
  have hk : k < L.length := (List.getElem?_eq_some_iff.1 h.out).1
  have he : L[k] = l := (List.getElem?_eq_some_iff.1 h.out).2
  rw [List.drop_eq_getElem_cons hk, he, ckH]
/-- A history that is valid. -/
def ValH (L : List (List Int)) : Prop := L.length ≤ 256 ∧ ∀ (k : Nat) l, L[k]? = some l → isSet k l = true
theorem ckH_facts : ∀ {L : List (List Int)} {i : Int}, ckH i L = 0 → ∀ (k : Nat) l, L[k]? = some l → isSet (i + k) l = true
  | [], _, _, k, l, h => by simp at h
  | m :: L, i, h, k, l, hk => by
    rw [ckH] at h
    split at h
    · cases h
    · rename_i hm
      cases k with
      | zero => simp at hk; subst hk; simpa using hm
      | succ k =>
        simp at hk
        have := ckH_facts h k l hk
        rw [show i + ((k + 1 : Nat) : Int) = i + 1 + k by omega]
        exact this
theorem valH {L : List (List Int)} (h : checkHist L = 0) : ValH L := by
  unfold checkHist at h
  split at h
  · cases h
  · refine ⟨by omega, fun k l hk => ?_⟩
    have := ckH_facts h k l hk
    simpa using this

def setAll (bs : List Bool) (l : List Int) : List Bool := l.foldl (fun b x => b.set x.toNat true) bs
/-- From version x - 1 down. -/
def ancUp (P : List (List Int)) : Nat → List Bool → List Bool
  | 0, bs => bs
  | x + 1, bs => ancUp P x (if bs.getD x false then setAll bs (P.getD x []) else bs)
/-- The ancestors of a set. -/
def ancOf (P : List (List Int)) (S : List Int) : List Int := pickedOf (ancUp P P.length (setAll (List.replicate P.length false) S))

theorem setAll_len : ∀ (l : List Int) (bs : List Bool), (setAll bs l).length = bs.length
  | [], _ => rfl
  | x :: l, bs => by
    show (setAll (bs.set x.toNat true) l).length = _
    rw [setAll_len l]; simp
theorem setAll_snoc {l : List Int} {k : Nat} {x : Int} (h : Hid (l[k]? = some x)) (bs : List Bool) : setAll bs (l.take (k + 1)) = (setAll bs (l.take k)).set x.toNat true := by
  rw [List.take_add_one, h.out]; simp [setAll]
theorem inB_setAll : ∀ (l : List Int) (bs : List Bool), InR bs.length l → ∀ i, inB (setAll bs l) i = (inB bs i || decide (i ∈ l))
  | [], bs, _, i => by simp [setAll]
  | x :: l, bs, h, i => by
    have hx := h x (by simp)
    show inB (setAll (bs.set x.toNat true) l) i = _
    rw [inB_setAll l _ (fun y hy => by have := h y (by simp [hy]); simpa using this), inB_set hx.1 (by omega)]
    by_cases e : i = x <;> simp [e]
theorem ancUp_len (P : List (List Int)) : ∀ (x : Nat) (bs : List Bool), (ancUp P x bs).length = bs.length
  | 0, _ => rfl
  | x + 1, bs => by
    rw [ancUp, ancUp_len P x]
    split
    · rw [setAll_len]
    · rfl
structure AInv (P : List (List Int)) (S : List Int) (bs : List Bool) (x : Nat) : Prop where
  base : ∀ s ∈ S, inB bs s = true
  step : ∀ y : Int, x ≤ y → inB bs y = true → ∀ z ∈ needsOf P y, inB bs z = true
  least : ∀ D : Int → Bool, (∀ s ∈ S, D s = true) → (∀ y, D y = true → ∀ z ∈ needsOf P y, D z = true) → ∀ y, inB bs y = true → D y = true
theorem ainv_down {P : List (List Int)} {S : List Int} (hP : ∀ (k : Nat) l, P[k]? = some l → isSet k l = true) : ∀ (x : Nat) (bs : List Bool), x ≤ bs.length → AInv P S bs x → AInv P S (ancUp P x bs) 0
  | 0, _, _, h => h
  | x + 1, bs, hx, h => by
    rw [ancUp]
    refine ainv_down hP x _ (by split; (rw [setAll_len]; omega); omega) ?_
    have hpr : ∀ z ∈ P.getD x [], 0 ≤ z ∧ z < x := fun z hz => by
      rw [List.getD_eq_getElem?_getD] at hz
      cases hg : P[x]? with
      | none => rw [hg] at hz; cases hz
      | some l =>
        rw [hg] at hz
        exact (isSet_iff.1 (hP x l hg)).1 z hz
    by_cases hb : bs.getD x false = true
    · rw [if_pos hb]
      have hin : InR bs.length (P.getD x []) := fun z hz => by have := hpr z hz; omega
      have hbx : inB bs x = true := by unfold inB; simpa using hb
      refine ⟨fun s hs => by rw [inB_setAll _ _ hin, h.base s hs]; rfl, fun y hy hyb z hz => ?_, fun D d1 d2 y hy => ?_⟩
      · rw [inB_setAll _ _ hin] at hyb ⊢
        rw [Bool.or_eq_true, decide_eq_true_eq] at hyb ⊢
        by_cases e : y = x
        · subst e
          right
          unfold needsOf at hz
          simpa using hz
        · rcases hyb with hyb | hyb
          · exact .inl (h.step y (by omega) hyb z hz)
          · have := hpr y hyb; omega
      · rw [inB_setAll _ _ hin, Bool.or_eq_true, decide_eq_true_eq] at hy
        rcases hy with hy | hy
        · exact h.least D d1 d2 y hy
        · exact d2 x (h.least D d1 d2 x hbx) y (by unfold needsOf; simpa using hy)
    · rw [if_neg hb]
      refine ⟨h.base, fun y hy hyb z hz => ?_, h.least⟩
      by_cases e : y = x
      · subst e
        unfold inB at hyb
        simp at hyb hb
        rw [hb] at hyb; cases hyb
      · exact h.step y (by omega) hyb z hz
theorem ainv_done {P : List (List Int)} {S : List Int} {bs : List Bool} (h : AInv P S bs 0) : IsCl P S (inB bs) :=
  ⟨h.base, fun y hy z hz => h.step y (inB_lt hy).1 hy z hz, h.least⟩
theorem inB_repl (n : Nat) (i : Int) : inB (List.replicate n false) i = false := by
  unfold inB
  by_cases h : i.toNat < n <;> simp [List.getElem?_replicate, h]
theorem anc_cl {P : List (List Int)} {S : List Int} (hP : ∀ (k : Nat) l, P[k]? = some l → isSet k l = true) (hS : InR P.length S) : IsCl P S (inB (ancUp P P.length (setAll (List.replicate P.length false) S))) := by
  have hin : InR (List.replicate P.length false).length S := fun x hx => by simpa using hS x hx
  refine ainv_done (ainv_down hP _ _ (by rw [setAll_len]; simp) ⟨fun s hs => by rw [inB_setAll _ _ hin]; simp [hs], fun y hy hyb z hz => ?_, fun D d1 d2 y hy => ?_⟩)
  · have := inB_lt hyb
    rw [setAll_len] at this
    simp at this
    omega
  · rw [inB_setAll _ _ hin, inB_repl] at hy
    simp at hy
    exact d1 y hy
theorem anc_one {P : List (List Int)} (hP : ∀ (k : Nat) l, P[k]? = some l → isSet k l = true) {v : Nat} (hv : v < P.length) : IsCl P [(v : Int)] (inB (ancUp P (v + 1) ((List.replicate (v + 1) false).set v true))) := by
  have e : ∀ i : Int, inB ((List.replicate (v + 1) false).set v true) i = decide (i = v) := fun i => by
    have := inB_set (bs := List.replicate (v + 1) false) (x := (v : Int)) (by omega) (by simp) i
    rw [inB_repl] at this
    simpa using this
  refine ainv_done (ainv_down hP _ _ (by simp) ⟨fun s hs => by rw [e]; simpa using hs, fun y hy hyb z hz => ?_, fun D d1 d2 y hy => ?_⟩)
  · rw [e] at hyb; simp at hyb; omega
  · rw [e] at hy; simp at hy; subst hy; exact d1 _ (by simp)
/-- What is closed and smallest is one thing alone. -/
theorem cl_uniq {P : List (List Int)} {S : List Int} {bs cs : List Bool} (h : IsCl P S (inB bs)) (k : IsCl P S (inB cs)) : pickedOf bs = pickedOf cs :=
  sorted_ext (picked_sorted bs) (picked_sorted cs) fun x => by
    rw [mem_picked, mem_picked]
    exact ⟨h.least _ k.base k.step x, k.least _ h.base h.step x⟩
theorem anc_prog {P : List (List Int)} (h : ValH P) {v : Nat} (hv : v < P.length) : pickedOf (ancUp P (v + 1) ((List.replicate (v + 1) false).set v true)) = ancOf P [(v : Int)] :=
  cl_uniq (anc_one h.2 hv) (anc_cl h.2 (fun x hx => by simp at hx; omega))
theorem mem_anc {P : List (List Int)} {S : List Int} (h : ValH P) (hS : InR P.length S) : IsCl P S (fun x => decide (x ∈ ancOf P S)) := by
  have := anc_cl h.2 hS
  have e : (fun x => decide (x ∈ ancOf P S)) = inB (ancUp P P.length (setAll (List.replicate P.length false) S)) := by
    funext x
    unfold ancOf
    rw [Bool.eq_iff_iff, decide_eq_true_eq, mem_picked]
  rw [e]; exact this
theorem anc_set {P : List (List Int)} (S : List Int) : isSet P.length (ancOf P S) = true := by
  have := picked_set (ancUp P P.length (setAll (List.replicate P.length false) S))
  rw [ancUp_len, setAll_len, List.length_replicate] at this
  exact this
end Go.Proofs.Ytjpbmbonccenfaa
