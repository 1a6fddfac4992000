/- ReduceCulprit: the plain law. -/
import Derived.Test.YtjpbmbonccenfaaRCul
namespace Go.Proofs.Ytjpbmbonccenfaa
open Go.RowKit
set_option linter.unusedVariables false

/-- What a version answers. -/
def cuSay (P : List (List Int)) (first : Int) (br : Int → Bool) (v : Int) : Int := if br v then 3 else if first ∈ ancOf P [v] then 2 else 1
/-- Ancestors are not later. -/
theorem anc_le {P : List (List Int)} (h : ValH P) {v : Int} (hv : 0 ≤ v ∧ v < P.length) {x : Int} (hx : x ∈ ancOf P [v]) : x ≤ v := by
  have := (mem_anc (S := [v]) h (fun x hx => by simp at hx; omega)).least (fun x => decide (x ≤ v)) (fun s hs => by simp at hs; simp; omega) (fun y hy z hz => by
    simp only [decide_eq_true_eq] at hy ⊢
    unfold needsOf at hz
    rw [List.getD_eq_getElem?_getD] at hz
    cases hg : P[y.toNat]? with
    | none => rw [hg] at hz; cases hz
    | some l =>
      rw [hg] at hz
      have h1 := (isSet_iff.1 (h.2 _ l hg)).1 z hz
      by_cases hy0 : 0 ≤ y
      · omega
      · have : y.toNat = 0 := by omega
        rw [this] at h1
        omega) x (by simpa using hx)
  simpa using this
theorem anc_trans {P : List (List Int)} (h : ValH P) {v y x : Int} (hv : 0 ≤ v ∧ v < P.length) (hy : y ∈ ancOf P [v]) (hx : x ∈ ancOf P [y]) : x ∈ ancOf P [v] := by
  have hyr := (isSet_iff.1 (anc_set (P := P) [v])).1 y hy
  have cv := mem_anc (S := [v]) h (fun x hx => by simp at hx; omega)
  have := (mem_anc (S := [y]) h (fun x hx => by simp at hx; omega)).least (fun x => decide (x ∈ ancOf P [v])) (fun s hs => by simp at hs; subst hs; simpa using hy) cv.step x (by simpa using hx)
  simpa using this
/-- How far the search has come. -/
structure CuSt (P : List (List Int)) (first bad : Int) (br : Int → Bool) (c0 : List Int) (ans : List Int) (whole : Bool) : Prop where
  ex : ∃ (t : Nat) (cand sk : List Int), (∀ a', ans <+: a' → culI P a' 1 (c0.length + 1) c0 [bad] 0 = culI P a' 1 t cand sk ans.length) ∧ CulOk P cand sk (fun _ => false) ∧ (minus cand sk).length < t ∧
    ans.length + (minus cand sk).length ≤ c0.length ∧ first ∈ cand ∧ (whole = true → ∀ v ∈ sk, first ∈ ancOf P [v] ∧ ∀ x ∈ cand, x ∈ ancOf P [v])
theorem ver_one {ans : List Int} {u : Nat} {a : Int} (h : ans[u]? = some a) (ha : a = 1 ∨ a = 2 ∨ a = 3) : ver ans 1 u 3 = some (a, u + 1) := by
  rw [ver]
  simp only [h]
  rcases ha with rfl | rfl | rfl <;> simp [told, ver]
theorem cuSay_cases (P : List (List Int)) (first : Int) (br : Int → Bool) (v : Int) : cuSay P first br v = 1 ∨ cuSay P first br v = 2 ∨ cuSay P first br v = 3 := by
  unfold cuSay; (repeat' split) <;> simp
theorem cu_start {P : List (List Int)} {first bad : Int} {br : Int → Bool} {c0 : List Int} (h : ValH P) (hb : 0 ≤ bad ∧ bad < P.length) (hs : isSet P.length c0 = true) (hf : first ∈ c0) (hsub : ∀ x ∈ c0, x ∈ ancOf P [bad]) : CuSt P first bad br c0 [] true :=
  ⟨c0.length + 1, c0, [bad], fun _ _ => rfl, ⟨hs, by simp⟩, by have := minus_le c0 [bad]; omega, by have := minus_le c0 [bad]; simp; omega, hf, fun _ v hv => by
    simp at hv; subst hv; exact ⟨hsub _ hf, hsub⟩⟩
theorem cu_step {P : List (List Int)} {first bad : Int} {br : Int → Bool} {c0 ans : List Int} {whole : Bool} (h : ValH P) (hc : CuSt P first bad br c0 ans whole) :
    (∃ cand, culI P ans 1 (c0.length + 1) c0 [bad] 0 = some (.inr (cand, ans.length)) ∧ first ∈ cand ∧ (whole = true → cand.length = 1)) ∨
    (∃ v, culI P ans 1 (c0.length + 1) c0 [bad] 0 = some (.inl v) ∧ 0 ≤ v ∧ v < P.length ∧ ans.length < c0.length ∧ CuSt P first bad br c0 (ans ++ [cuSay P first br v]) (whole && !br v)) := by
  obtain ⟨t, cand, sk, h1, hok, hlt, hle, hf, hw⟩ := hc.ex
  obtain ⟨t, rfl⟩ : ∃ n, t = n + 1 := ⟨t - 1, by omega⟩
  have hin : InR P.length cand := (isSet_iff.1 hok.set).1
  have hself := h1 ans (List.prefix_refl _)
  by_cases hn : chooseOf P cand sk < 0
  · left
    refine ⟨cand, by rw [hself, culI, if_pos hn], hf, fun hwh => ?_⟩
    have hm : minus cand sk = [] := (choose_neg hin).1 hn
    rw [minus_nil_iff] at hm
    have key : ∀ x ∈ cand, x = first := fun x hx => by
      have h2 := (hw hwh x (hm x hx)).1
      have h3 := (hw hwh first (hm first hf)).2 x hx
      have := anc_le h (hin x hx) h2
      have := anc_le h (hin first hf) h3
      omega
    have hnd := sorted_nodup (isSet_iff.1 hok.set).2
    match cand, hnd, key, hf with
    | [x], _, _, _ => rfl
    | x :: y :: l, hnd, key, _ =>
      have e1 := key x (by simp)
      have e2 := key y (by simp)
      rw [List.nodup_cons] at hnd
      exact absurd (by simp [e1, e2]) hnd.1
  · right
    have hm := cul_mem hok hn
    obtain ⟨v, hv⟩ : ∃ v, chooseOf P cand sk = v := ⟨_, rfl⟩
    rw [hv] at hm hn
    have hvr := hin v (mem_minus.1 hm).1
    have hpos : 0 < (minus cand sk).length := List.length_pos_of_mem hm
    refine ⟨v, ?_, hvr.1, hvr.2, by omega, ?_⟩
    · rw [hself, culI, hv, if_neg hn]
      have : ver ans 1 ans.length 3 = none := by rw [ver]; simp
      rw [this]
    · have hstep : ∀ a', (ans ++ [cuSay P first br v]) <+: a' → culI P a' 1 (c0.length + 1) c0 [bad] 0 =
          if cuSay P first br v = 2 then culI P a' 1 t (bothL cand (ancOf P [v])) (sk ++ [v]) (ans.length + 1) else if cuSay P first br v = 1 then culI P a' 1 t (minus cand (ancOf P [v])) sk (ans.length + 1) else culI P a' 1 t cand (sk ++ [v]) (ans.length + 1) := fun a' hp => by
        rw [h1 a' (List.IsPrefix.trans (List.prefix_append _ _) hp), culI, hv, if_neg hn]
        have hat : a'[ans.length]? = some (cuSay P first br v) := by
          obtain ⟨r, rfl⟩ := hp
          rw [List.append_assoc, List.getElem?_append_right (Nat.le_refl _)]
          simp
        rw [ver_one hat (cuSay_cases ..)]
      have hl : (ans ++ [cuSay P first br v]).length = ans.length + 1 := by simp
      by_cases hbr : br v = true
      · have hsay : cuSay P first br v = 3 := by unfold cuSay; rw [if_pos hbr]
        obtain ⟨k1, k2⟩ := cul_skip (m' := fun _ => false) hok hm (by simp)
        refine ⟨t, cand, sk ++ [v], fun a' hp => ?_, k1, by omega, by rw [hl]; omega, hf, fun hwh => by simp [hbr] at hwh⟩
        rw [hstep a' hp, hl, hsay]; simp
      · have hbf : br v = false := by simpa using hbr
        by_cases ha : first ∈ ancOf P [v]
        · have hsay : cuSay P first br v = 2 := by unfold cuSay; rw [if_neg hbr, if_pos ha]
          obtain ⟨k1, k2⟩ := cul_fail (m' := fun _ => false) hok hm (by simp)
          refine ⟨t, bothL cand (ancOf P [v]), sk ++ [v], fun a' hp => ?_, k1, by omega, by rw [hl]; omega, mem_both.2 ⟨hf, ha⟩, fun hwh y hy => ?_⟩
          · rw [hstep a' hp, hl, hsay]; simp
          · rcases List.mem_append.1 hy with hy | hy
            · have := hw (by simpa [hbf] using hwh) y hy
              exact ⟨this.1, fun x hx => this.2 x (mem_both.1 hx).1⟩
            · simp at hy; subst hy
              exact ⟨ha, fun x hx => (mem_both.1 hx).2⟩
        · have hsay : cuSay P first br v = 1 := by unfold cuSay; rw [if_neg hbr, if_neg ha]
          obtain ⟨k1, k2⟩ := cul_pass (m' := fun _ => false) h hok hm (by simp)
          refine ⟨t, minus cand (ancOf P [v]), sk, fun a' hp => ?_, k1, by omega, by rw [hl]; omega, mem_minus.2 ⟨hf, ha⟩, fun hwh y hy => ?_⟩
          · rw [hstep a' hp, hl, hsay]; simp
          · have := hw (by simpa [hbf] using hwh) y hy
            exact ⟨this.1, fun x hx => this.2 x (mem_minus.1 hx).1⟩
/-- What Culprits says, where the first bad version is known. -/
theorem cu_culprits {P : List (List Int)} {good ans : List Int} {bad : Int} (h0 : checkHist P = 0) (hs : isSet P.length good = true) (hb : 0 ≤ bad ∧ bad < P.length) (hc : bad ∈ cand0 P good bad) (hl : ans.length ≤ 4096) :
    culprits P good bad 1 ans = finC ans (culI P ans 1 ((cand0 P good bad).length + 1) (cand0 P good bad) [bad] 0) := by
  unfold culprits
  rw [if_neg (by simpa using h0), if_neg (by simp [hs]; omega), if_neg (by simpa using hc), if_neg (by omega)]
  rfl
end Go.Proofs.Ytjpbmbonccenfaa
