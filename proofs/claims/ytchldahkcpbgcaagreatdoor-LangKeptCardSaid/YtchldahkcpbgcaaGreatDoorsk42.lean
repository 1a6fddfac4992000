/- Texts of this seat, one behind the other: HeldP. -/
import Derived.Test.YtchldahkcpbgcaaGreatDoorsk2
import Derived.OrdersHeld
import Derived.Deep.RegionHeld
import Derived.Test.YtchldahkcpbgcaaGreatDoorsk39
namespace Go.Proofs.YtchldahkcpbgcaaGreatDoor
set_option linter.unusedVariables false

/- Drawn regions that load cells and store into them at their end: the condition on the world is asked only while none of the last operations (M) has come up. -/
section
open Go.RowKit
set_option linter.unusedSimpArgs false
def preM (M : List Nat) (listed : Array Bool) : Bool := M.all fun m => !listed.getD m false
theorem preM_set {M : List Nat} {listed : Array Bool} {j : Nat} (hj : j ∉ M) : preM M (listed.setIfInBounds j true) = preM M listed := by
 unfold preM
 rw [Bool.eq_iff_iff, List.all_eq_true, List.all_eq_true]
 have h : ∀ m ∈ M, (listed.setIfInBounds j true).getD m false = listed.getD m false := fun m hm => by
  have hne : j ≠ m := fun e => hj (e ▸ hm)
  simp [Array.getD_eq_getD_getElem?, Array.getElem?_setIfInBounds_ne hne]
 exact ⟨fun h1 m hm => by rw [← h m hm]; exact h1 m hm, fun h1 m hm => by rw [h m hm]; exact h1 m hm⟩
def wpAnyP (P : Program) (md : Region.Mode) (ops : Array Oper) (Q : Exit → Act → World → Prop) (M : List Nat) (S : World → Prop) : Nat → Array Bool → Act → World → Prop
  | 0, listed, a, w => Region.ready md ops listed = [] ∧ Q .normal a w
  | n + 1, listed, a, w => (Region.ready md ops listed = [] → Q .normal a w) ∧
    ∀ i ∈ Region.ready md ops listed, wpOp P ops Q i (fun a' w' => (preM M (listed.setIfInBounds i true) = true → S w') ∧ wpAnyP P md ops Q M S n (listed.setIfInBounds i true) a' w') a w
section
variable {P : Program} {md : Region.Mode} {ops : Array Oper} {Q : Exit → Act → World → Prop} {M : List Nat} {S : World → Prop}
theorem wpAny_of_P : ∀ (n : Nat) (listed : Array Bool) (a : Act) (w : World), wpAnyP P md ops Q M S n listed a w → wpAny P md ops Q n listed a w
 | 0, _, _, _, h => h
 | n + 1, _, _, _, h => ⟨h.1, fun i hi => wpOp_mono (fun a' w' h' => wpAny_of_P n _ a' w' h'.2) (h.2 i hi)⟩
def waitM (md : Region.Mode) (ops : Array Oper) (M : List Nat) (i : Nat) : Bool := M.all fun m => match ops[m]? with | some o => o.after.any (fun e => Region.binds md e && e.on == i) | none => true
theorem waitM_spec {i : Nat} (h : waitM md ops M i = true) {j : Nat} (hj : j ∈ M) {listed : Array Bool} (hr : j ∈ Region.ready md ops listed) : listed.getD i false = true := by
 obtain ⟨_, o, ho, hall⟩ := mem_ready.1 hr
 have h1 := List.all_eq_true.1 h j hj
 rw [ho] at h1
 simp only [Array.any_eq_true'] at h1
 obtain ⟨e, he, h2⟩ := h1
 simp only [Bool.and_eq_true, beq_iff_eq] at h2
 have h3 := hall e he h2.1
 rw [h2.2] at h3
 exact h3
theorem wpAnyP_first {i : Nat} {oi : Oper} {v : Value} (hi : ops[i]? = some oi) (hsel : ∀ (j : Nat) (o : Oper) cs b, ops[j]? = some o → o.op ≠ .select cs b)
    (hQ : ∀ c a w, Q (.panic c) (a.put oi.dst v) w → Q (.panic c) a w) (hM : waitM md ops M i = true) (hiM : i ∉ M) :
    ∀ (n : Nat) (listed : Array Bool) (a : Act) (w : World),
      (∀ j oj, ops[j]? = some oj → j ≠ i → listed.getD j true = false → (∀ e ∈ oj.after, Region.binds md e = true → e.on ≠ i) → oi.apart ops oj = true) →
      i ∈ Region.ready md ops listed → YieldsIf P ops S oi v a → S w → preM M listed = true →
      wpAnyP P md ops Q M S n (listed.setIfInBounds i true) (a.put oi.dst v) w → wpAnyP P md ops Q M S (n + 1) listed a w := by
  intro n
  induction n with
  | zero =>
    intro listed a w _ hr hy hS hp H
    refine ⟨fun h => (by rw [h] at hr; cases hr), fun j hj => ?_⟩
    by_cases hji : j = i
    · subst hji; exact hy.wpOp hi hS ⟨fun _ => hS, H⟩
    · have := ready_mono hj hji
      rw [H.1] at this
      cases this
  | succ n ih =>
    intro listed a w hfree hr hy hS hp H
    refine ⟨fun h => (by rw [h] at hr; cases hr), fun j hj => ?_⟩
    by_cases hji : j = i
    · subst hji; exact hy.wpOp hi hS ⟨fun _ => hS, H⟩
    · have hjM : j ∉ M := fun hm => by
        have h1 := waitM_spec hM hm hj
        have h0 := (mem_ready.1 hr).1
        rcases Nat.lt_or_ge i listed.size with h' | h'
        · simp [h'] at h0 h1; rw [h0] at h1; cases h1
        · simp [Array.getElem?_eq_none h'] at h1
      have h1 := H.2 j (ready_mono hj hji)
      obtain ⟨hjun, oj, hoj, hall⟩ := mem_ready.1 hj
      have hnot : ∀ e ∈ oj.after, Region.binds md e = true → e.on ≠ i := fun e he hb heq => by
        have h1 := hall e he hb
        have h0 := (mem_ready.1 hr).1
        rw [heq] at h1
        rcases Nat.lt_or_ge i listed.size with h' | h'
        · simp [h'] at h0 h1; rw [h0] at h1; cases h1
        · simp [Array.getElem?_eq_none h'] at h1
      have h2 := wpOp_putIf hoj (hfree j oj hoj hji hjun hnot) (fun cs b => hsel i oi cs b hi) (fun cs b => hsel j oj cs b hoj) hQ hy h1
      have hfree' : ∀ k ok, ops[k]? = some ok → k ≠ i → (listed.setIfInBounds j true).getD k true = false →
          (∀ e ∈ ok.after, Region.binds md e = true → e.on ≠ i) → oi.apart ops ok = true := fun k ok hk hki hun hno => by
        refine hfree k ok hk hki ?_ hno
        by_cases hjk : j = k
        · subst hjk; exact hjun
        · rw [getD_set_ne true hjk] at hun; exact hun
      refine wpOp_mono (fun a' w' h3 => ?_) h2
      have h4 : preM M ((listed.setIfInBounds i true).setIfInBounds j true) = true := by rw [preM_set hjM, preM_set hiM]; exact hp
      have hS' := h3.2.1 h4
      refine ⟨fun _ => hS', ih (listed.setIfInBounds j true) a' w' hfree' (ready_mono hr (Ne.symm hji)) h3.1 hS' (by rw [preM_set hjM]; exact hp) ?_⟩
      rw [Array.setIfInBounds_comm _ _ hji]
      exact h3.2.2
theorem tkP {oi : Oper} {n : Nat} {listed : Array Bool} {a : Act} {w : World} (i : Nat) (v : Value) (hi : ops[i]? = some oi := by rfl) (hs : Region.noSelect ops = true := by kernel_rfl)
  (hf : Region.free md ops listed i = true := by kernel_rfl) (hr : (Region.ready md ops listed).contains i = true := by kernel_rfl) (hQ : ∀ c a w, Q (.panic c) (a.put oi.dst v) w → Q (.panic c) a w := by exact fun _ _ _ h => h) (hw : Region.wanted oi (yielded ops a.tmps) = true := by rfl)
  (hM : (waitM md ops M i && !M.contains i && preM M listed) = true := by kernel_rfl) (hS : S w := by assumption)
  (y : ∀ w, S w → (execOp a.eval oi).run P w = .ok (.value v) w) (h : wpAnyP P md ops Q M S n (listed.setIfInBounds i true) (a.put oi.dst v) w) : wpAnyP P md ops Q M S (n + 1) listed a w := by
 simp only [Bool.and_eq_true, Bool.not_eq_true'] at hM
 exact wpAnyP_first hi (Region.noSelect_spec hs) hQ hM.1.1 (by simpa using hM.1.2) n listed a w (Region.free_spec hi hf) (by simpa using hr) (.inl ⟨hw, y⟩) hS hM.2 h
def AllReadyP (P : Program) (md : Region.Mode) (ops : Array Oper) (Q : Exit → Act → World → Prop) (M : List Nat) (S : World → Prop) (n : Nat) (listed : Array Bool) (a : Act) (w : World) (rs : List Nat) : Prop :=
 ∀ i ∈ rs, wpOp P ops Q i (fun a' w' => (preM M (listed.setIfInBounds i true) = true → S w') ∧ wpAnyP P md ops Q M S n (listed.setIfInBounds i true) a' w') a w
theorem AllReadyP.nil {n : Nat} {listed : Array Bool} {a : Act} {w : World} : AllReadyP P md ops Q M S n listed a w [] := fun _ h => by cases h
theorem AllReadyP.cons {n : Nat} {listed : Array Bool} {a : Act} {w : World} {i : Nat} {o : Oper} {rs : List Nat} (ho : ops[i]? = some o)
  (h : ∀ K' : Act → World → Prop, Shut (∀ a w, (preM M (listed.setIfInBounds i true) = true → S w) → ((preM M (listed.setIfInBounds i true) = true → S w) → wpAnyP P md ops Q M S n (listed.setIfInBounds i true) a w) → K' a w) → if Region.wanted o (yielded ops a.tmps) = true then Oper.wp P o a w K' Q else K' (a.put o.dst undef) w)
  (hs : AllReadyP P md ops Q M S n listed a w rs) : AllReadyP P md ops Q M S n listed a w (i :: rs) := fun j hj => by
 rcases List.mem_cons.1 hj with rfl | hj
 ·exact wpOp_step ho (fun K' hK => h K' (fun a w hS hW => hK a w ⟨hS, hW hS⟩))
 ·exact hs j hj
theorem wpAnyP_ready {rs : List Nat} {n : Nat} {listed : Array Bool} {a : Act} {w : World} (hr : Region.ready md ops listed = rs) (hne : rs ≠ [])
  (h : AllReadyP P md ops Q M S n listed a w rs) : wpAnyP P md ops Q M S (n + 1) listed a w := ⟨fun h0 => absurd (hr ▸ h0) hne, hr ▸ h⟩
theorem wpAnyP_done {listed : Array Bool} {a : Act} {w : World} (hr : Region.ready md ops listed = []) (h : Q .normal a w) : ∀ n, wpAnyP P md ops Q M S n listed a w
 | 0 => ⟨hr, h⟩
 | _ + 1 => ⟨fun _ => h, by rw [hr]; simp⟩
theorem wp_region_P {id : Nat} {a : Act} {w : World} (M : List Nat) (S : World → Prop) (hS : S w.drew) (hm : P.follows .mixedOrders = true)
  (h : S w.drew → wpAnyP P .any ops Q M S ops.size (Array.replicate ops.size false) a w.drew) : (Code.region id ops true).wp P Q a w := wp_region_any hm (wpAny_of_P _ _ _ _ (h hS))
theorem Shut.on {n : Nat} {listed : Array Bool} {K' : Act → World → Prop} {i : Nat} (hK : Shut (∀ a w, (preM M (listed.setIfInBounds i true) = true → S w) → ((preM M (listed.setIfInBounds i true) = true → S w) → wpAnyP P md ops Q M S n (listed.setIfInBounds i true) a w) → K' a w))
  {a : Act} {w : World} (hS : S w) (h : S w → wpAnyP P md ops Q M S n (listed.setIfInBounds i true) a w) : K' a w := hK.out a w (fun _ => hS) (fun _ => h hS)
theorem Shut.end_ {n : Nat} {listed : Array Bool} {K' : Act → World → Prop} {i : Nat} (hK : Shut (∀ a w, (preM M (listed.setIfInBounds i true) = true → S w) → ((preM M (listed.setIfInBounds i true) = true → S w) → wpAnyP P md ops Q M S n (listed.setIfInBounds i true) a w) → K' a w))
  {a : Act} {w : World} (h : wpAnyP P md ops Q M S n (listed.setIfInBounds i true) a w) (hp : preM M (listed.setIfInBounds i true) = false := by kernel_rfl) : K' a w := hK.out a w (fun h1 => by rw [hp] at h1; cases h1) (fun _ => h)
end
end

end Go.Proofs.YtchldahkcpbgcaaGreatDoor
