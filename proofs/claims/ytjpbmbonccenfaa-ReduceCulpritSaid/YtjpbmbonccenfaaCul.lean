/- Culprits: the plain search. -/
import Derived.Test.YtjpbmbonccenfaaHist3
import Derived.Test.YtjpbmbonccenfaaIBisect
namespace Go.Proofs.Ytjpbmbonccenfaa
open Go.RowKit
set_option linter.unusedVariables false

/-- The search: a question, or the candidates and how many answers were used. -/
def culI (P : List (List Int)) (ans : List Int) (T : Nat) : Nat → List Int → List Int → Nat → Option (Int ⊕ (List Int × Nat))
  | 0, _, _, _ => none
  | t + 1, cand, sk, u =>
    if chooseOf P cand sk < 0 then some (.inr (cand, u))
    else match ver ans T u 3 with
      | none => some (.inl (chooseOf P cand sk))
      | some (x, u') =>
        if x = 2 then culI P ans T t (bothL cand (ancOf P [chooseOf P cand sk])) (sk ++ [chooseOf P cand sk]) u'
        else if x = 1 then culI P ans T t (minus cand (ancOf P [chooseOf P cand sk])) sk u'
        else culI P ans T t cand (sk ++ [chooseOf P cand sk]) u'
theorem minus_congr {a s s' : List Int} (h : ∀ x, x ∈ a → (x ∈ s ↔ x ∈ s')) : minus a s = minus a s' := by
  unfold minus
  refine List.filter_congr fun x hx => ?_
  simp [h x hx]
theorem choose_congr {P : List (List Int)} {cand s s' : List Int} (h : ∀ x, x ∈ cand → (x ∈ s ↔ x ∈ s')) : chooseOf P cand s = chooseOf P cand s' := by
  unfold chooseOf; rw [minus_congr h]
theorem self_anc {P : List (List Int)} (h : ValH P) {v : Int} (hv : 0 ≤ v ∧ v < P.length) : v ∈ ancOf P [v] := by
  have := (mem_anc (S := [v]) h (fun x hx => by simp at hx; omega)).base v (by simp)
  simpa using this
/-- What holds of candidates and of what is to be skipped, all the time. -/
structure CulOk (P : List (List Int)) (cand sk : List Int) (m : Int → Bool) : Prop where
  set : isSet P.length cand = true
  kn : ∀ x, m x = true → x ∉ minus cand sk
theorem cul_step {P : List (List Int)} {cand sk cand' sk' : List Int} {m m' : Int → Bool} {v : Int} (h : CulOk P cand sk m) (hv : v ∈ minus cand sk) (hs : isSet P.length cand' = true)
    (hsub : ∀ x ∈ minus cand' sk', x ∈ minus cand sk ∧ x ≠ v) (hm : ∀ x, m' x = true → m x = true ∨ x = v) : CulOk P cand' sk' m' ∧ (minus cand' sk').length < (minus cand sk).length := by
  refine ⟨⟨hs, fun x hx hx2 => ?_⟩, ?_⟩
  · obtain ⟨h1, h2⟩ := hsub x hx2
    rcases hm x hx with h3 | h3
    · exact h.kn x h3 h1
    · exact h2 h3
  · have := nodup_sub_len (xs := v :: minus cand' sk') (ys := minus cand sk) (List.nodup_cons.2 ⟨fun hv' => (hsub v hv').2 rfl, sorted_nodup (minus_sorted _ (isSet_iff.1 hs).2)⟩) (fun x hx => by
      rcases List.mem_cons.1 hx with rfl | hx
      · exact hv
      · exact (hsub x hx).1)
    simp at this; omega
theorem both_set {n : Int} {a b : List Int} (h : isSet n a = true) : isSet n (bothL a b) = true := minus_set _ h
section
variable {P : List (List Int)} {cand sk : List Int} {m m' : Int → Bool} {v : Int}
theorem cul_fail (h : CulOk P cand sk m) (hv : v ∈ minus cand sk) (hm : ∀ x, m' x = true → m x = true ∨ x = v) :
    CulOk P (bothL cand (ancOf P [v])) (sk ++ [v]) m' ∧ (minus (bothL cand (ancOf P [v])) (sk ++ [v])).length < (minus cand sk).length :=
  cul_step h hv (both_set h.set) (fun x hx => by
    obtain ⟨h1, h2⟩ := mem_minus.1 hx
    simp at h2
    exact ⟨mem_minus.2 ⟨(mem_both.1 h1).1, h2.1⟩, h2.2⟩) hm
theorem cul_pass (hP : ValH P) (h : CulOk P cand sk m) (hv : v ∈ minus cand sk) (hm : ∀ x, m' x = true → m x = true ∨ x = v) :
    CulOk P (minus cand (ancOf P [v])) sk m' ∧ (minus (minus cand (ancOf P [v])) sk).length < (minus cand sk).length :=
  cul_step h hv (minus_set _ h.set) (fun x hx => by
    obtain ⟨h1, h2⟩ := mem_minus.1 hx
    obtain ⟨h3, h4⟩ := mem_minus.1 h1
    refine ⟨mem_minus.2 ⟨h3, h2⟩, fun e => h4 ?_⟩
    subst e
    exact self_anc hP ((isSet_iff.1 h.set).1 x h3)) hm
theorem cul_skip (h : CulOk P cand sk m) (hv : v ∈ minus cand sk) (hm : ∀ x, m' x = true → m x = true ∨ x = v) :
    CulOk P cand (sk ++ [v]) m' ∧ (minus cand (sk ++ [v])).length < (minus cand sk).length :=
  cul_step h hv h.set (fun x hx => by
    obtain ⟨h1, h2⟩ := mem_minus.1 hx
    simp at h2
    exact ⟨mem_minus.2 ⟨h1, h2.1⟩, h2.2⟩) hm
theorem cul_mem (h : CulOk P cand sk m) (hn : ¬ chooseOf P cand sk < 0) : chooseOf P cand sk ∈ minus cand sk := by
  have hin : InR P.length cand := (isSet_iff.1 h.set).1
  refine choose_mem (fun e => hn ((choose_neg hin).2 e)) hin
end

/-- The candidates at the beginning. -/
def cand0 (P : List (List Int)) (good : List Int) (bad : Int) : List Int := minus (ancOf P [bad]) (ancOf P good)
def finC (ans : List Int) : Option (Int ⊕ (List Int × Nat)) → Qst × Int
  | none => (qNone, 0)
  | some (.inl v) => (⟨false, [v], [], []⟩, 0)
  | some (.inr (cand, u)) => endOf false [] 0 (decide (u < ans.length)) cand []
/-- Culprits. -/
def culprits (P : List (List Int)) (good : List Int) (bad times : Int) (ans : List Int) : Qst × Int :=
  if checkHist P ≠ 0 then (qNone, checkHist P)
  else if isSet P.length good = false ∨ bad < 0 ∨ P.length ≤ bad then (qNone, 1)
  else if bad ∉ cand0 P good bad then (qNone, 12)
  else if 4096 < ans.length then (qNone, 3)
  else finC ans (culI P ans (timesOf times).toNat ((cand0 P good bad).length + 1) (cand0 P good bad) [bad] 0)

/-- The ancestors of a set are those of its elements. -/
theorem anc_union {P : List (List Int)} (h : ValH P) {S : List Int} (hS : InR P.length S) (x : Int) : x ∈ ancOf P S ↔ ∃ g ∈ S, x ∈ ancOf P [g] := by
  have one : ∀ g ∈ S, IsCl P [g] (fun x => decide (x ∈ ancOf P [g])) := fun g hg => mem_anc h (fun y hy => by simp at hy; subst hy; exact hS y hg)
  have all := mem_anc h hS
  constructor
  · intro hx
    have := all.least (fun x => decide (∃ g ∈ S, x ∈ ancOf P [g])) (fun s hs => by
      simp only [decide_eq_true_eq]
      exact ⟨s, hs, self_anc h (hS s hs)⟩) (fun y hy z hz => by
      simp only [decide_eq_true_eq] at hy ⊢
      obtain ⟨g, hg, hy⟩ := hy
      exact ⟨g, hg, by simpa using (one g hg).step y (by simpa using hy) z hz⟩) x (by simpa using hx)
    simpa using this
  · rintro ⟨g, hg, hx⟩
    have := (one g hg).least (fun x => decide (x ∈ ancOf P S)) (fun s hs => by simp at hs; subst hs; exact all.base s hg) all.step x (by simpa using hx)
    simpa using this
/-- The candidates, one good version after the other. -/
def candK (P : List (List Int)) (good : List Int) (bad : Int) : List Int := good.foldl (fun c g => minus c (ancOf P [g])) (ancOf P [bad])
theorem candK_snoc {P : List (List Int)} {good : List Int} {bad : Int} {k : Nat} {g : Int} (h : Hid (good[k]? = some g)) : candK P (good.take (k + 1)) bad = minus (candK P (good.take k) bad) (ancOf P [g]) := by
  unfold candK
  rw [List.take_add_one, h.out]; simp
theorem mem_candK {P : List (List Int)} {x : Int} : ∀ (good : List Int) (c : List Int), x ∈ good.foldl (fun c g => minus c (ancOf P [g])) c ↔ x ∈ c ∧ ∀ g ∈ good, x ∉ ancOf P [g]
  | [], c => by simp
  | g :: good, c => by
    rw [List.foldl_cons, mem_candK good, mem_minus]
    simp [and_assoc]
theorem candK_sorted {P : List (List Int)} : ∀ (good : List Int) (c : List Int), c.Pairwise (· < ·) → (good.foldl (fun c g => minus c (ancOf P [g])) c).Pairwise (· < ·)
  | [], c, h => h
  | g :: good, c, h => candK_sorted good _ (minus_sorted _ h)
theorem candK_set {P : List (List Int)} (good : List Int) (bad : Int) : isSet P.length (candK P good bad) = true := by
  have := anc_set (P := P) [bad]
  rw [isSet_iff] at *
  exact ⟨fun x hx => this.1 x ((mem_candK good _).1 hx).1, candK_sorted good _ this.2⟩
theorem candK_all {P : List (List Int)} (h : ValH P) {good : List Int} (hg : InR P.length good) (bad : Int) : candK P good bad = cand0 P good bad := by
  have hs := (isSet_iff.1 (anc_set (P := P) [bad])).2
  refine sorted_ext (xs := candK P good bad) (candK_sorted good _ hs) (minus_sorted _ hs) fun x => ?_
  unfold cand0 candK
  rw [mem_candK, mem_minus, anc_union h hg]
  simp
theorem clash_iff {P : List (List Int)} (h : ValH P) {good : List Int} (hg : InR P.length good) {bad : Int} (hb : 0 ≤ bad ∧ bad < P.length) : bad ∈ cand0 P good bad ↔ ∀ g ∈ good, bad ∉ ancOf P [g] := by
  unfold cand0
  rw [mem_minus, anc_union h hg]
  have := self_anc h hb
  simp [this]
end Go.Proofs.Ytjpbmbonccenfaa
