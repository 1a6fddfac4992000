/- Bisect ends where it ought to: the plain law. -/
import Derived.Test.YtjpbmbonccenfaaIBisect
namespace Go.Proofs.Ytjpbmbonccenfaa
open Go.RowKit
set_option linter.unusedVariables false
/-- What a version of a kind answers when it is asked for the j-th time. -/
def rep (k j : Nat) : Int := if k = 0 then 1 else if k = 1 then 2 else if k = 2 then 3 else if 0 < j then 2 else 1
/-- The verdict on a version of a kind. -/
def jud (k T : Nat) : Int := if k = 0 then 1 else if k = 1 then 2 else if k = 2 then 3 else if 1 < T then 2 else 1
/-- How many answers that takes. -/
def lenK (k T : Nat) : Nat := if k = 0 then T else if k = 1 then 1 else if k = 2 then T else min T 2
theorem lenK_le {k T : Nat} (h : 1 ≤ T) : 1 ≤ lenK k T ∧ lenK k T ≤ T := by unfold lenK; split <;> (try split) <;> (try split) <;> omega

theorem ver_all1 {ans : List Int} : ∀ (t u : Nat) (o : Int), (∀ i, i < t → ans[u + i]? = some 1) → ver ans t u o = some (if t = 0 then o else 1, u + t)
  | 0, u, o, _ => by simp [ver]
  | t + 1, u, o, h => by
    have h0 := h 0 (by omega)
    rw [Nat.add_zero] at h0
    rw [ver]
    simp only [h0]
    rw [if_neg (by decide), ver_all1 t (u + 1) _ (fun i hi => by have := h (i + 1) (by omega); rwa [show u + (i + 1) = u + 1 + i by omega] at this)]
    simp [told]; omega
theorem ver_all3 {ans : List Int} : ∀ (t u : Nat) (o : Int), (∀ i, i < t → ans[u + i]? = some 3) → ver ans t u o = some (o, u + t)
  | 0, u, o, _ => by simp [ver]
  | t + 1, u, o, h => by
    have h0 := h 0 (by omega)
    rw [Nat.add_zero] at h0
    rw [ver]
    simp only [h0]
    rw [if_neg (by decide), ver_all3 t (u + 1) _ (fun i hi => by have := h (i + 1) (by omega); rwa [show u + (i + 1) = u + 1 + i by omega] at this)]
    simp [told]; omega
theorem ver_full {ans : List Int} {k T u : Nat} (hT : 1 ≤ T) (hk : k < 4) (h : ∀ i, i < lenK k T → ans[u + i]? = some (rep k i)) : ver ans T u 3 = some (jud k T, u + lenK k T) := by
  match k, hk with
  | 0, _ =>
    rw [ver_all1 T u 3 (fun i hi => by simpa [rep] using h i (by simpa [lenK] using hi))]
    simp [jud, lenK]; omega
  | 1, _ =>
    have h0 := h 0 (by simp [lenK])
    obtain ⟨t, rfl⟩ : ∃ n, T = n + 1 := ⟨T - 1, by omega⟩
    simp [rep] at h0
    simp [ver, h0, told, jud, lenK]
  | 2, _ =>
    rw [ver_all3 T u 3 (fun i hi => by simpa [rep] using h i (by simpa [lenK] using hi))]
    simp [jud, lenK]
  | 3, _ =>
    have h0 := h 0 (by simp [lenK]; omega)
    obtain ⟨t, rfl⟩ : ∃ n, T = n + 1 := ⟨T - 1, by omega⟩
    simp [rep] at h0
    by_cases ht : t = 0
    · subst ht
      simp [ver, h0, told, jud, lenK]
    · obtain ⟨s, rfl⟩ : ∃ n, t = n + 1 := ⟨t - 1, by omega⟩
      have h1 := h 1 (by simp [lenK])
      simp [rep] at h1
      simp [ver, h0, h1, told, jud, lenK]
theorem ver_part {ans : List Int} {k T u c : Nat} (hT : 1 ≤ T) (hk : k < 4) (hc : c < lenK k T) (hl : ans.length = u + c) (h : ∀ i, i < c → ans[u + i]? = some (rep k i)) : ver ans T u 3 = none := by
  have key : ∀ (t u c : Nat) (o x : Int), (x = 1 ∨ x = 3) → c < t → ans.length = u + c → (∀ i, i < c → ans[u + i]? = some x) → ver ans t u o = none := by
    intro t
    induction t with
    | zero => intro u c o x _ h; omega
    | succ t ih =>
      intro u c o x hx hc hl h
      rw [ver]
      by_cases h0 : c = 0
      · have : ans[u]? = none := List.getElem?_eq_none (by omega)
        simp [this]
      · have h0' := h 0 (by omega)
        rw [Nat.add_zero] at h0'
        have ht : ¬ told x = 2 := by rcases hx with rfl | rfl <;> decide
        simp only [h0']
        rw [if_neg ht]
        exact ih (u + 1) (c - 1) _ x hx (by omega) (by omega) (fun i hi => by have := h (i + 1) (by omega); rwa [show u + (i + 1) = u + 1 + i by omega] at this)
  match k, hk with
  | 0, _ => exact key T u c 3 1 (.inl rfl) (by simpa [lenK] using hc) hl (fun i hi => by simpa [rep] using h i hi)
  | 1, _ =>
    have h0 : c = 0 := by simp [lenK] at hc; omega
    exact key T u c 3 1 (.inl rfl) (by omega) hl (fun i hi => by omega)
  | 2, _ => exact key T u c 3 3 (.inr rfl) (by simpa [lenK] using hc) hl (fun i hi => by simpa [rep] using h i hi)
  | 3, _ =>
    have h1 : c < T ∧ c < 2 := by simp [lenK] at hc; omega
    exact key T u c 3 1 (.inl rfl) h1.1 hl (fun i hi => by
      have := h i hi
      have hi0 : i = 0 := by omega
      subst hi0
      simpa [rep] using this)

theorem betw_none {kn : Int → Bool} {low high : Int} (h : betw kn low high < 0) (h0 : 0 ≤ low) : ∀ x, low < x → x < high → kn x = true := by
  have key : ∀ (t : Nat) (m d : Int), betwFrom kn low high m t d < 0 → ∀ e, d ≤ e → e < d + t → ∀ x, (x = m + e ∨ x = m - e) → low < x → x < high → kn x = true := by
    intro t
    induction t with
    | zero => intro m d _ e h1 h2; omega
    | succ t ih =>
      intro m d hb e h1 h2 x hx hl hh
      unfold betwFrom at hb
      split at hb
      · rename_i y hy
        unfold betwAt at hy
        split at hy
        · injection hy with hy; omega
        · split at hy
          · injection hy with hy; omega
          · cases hy
      · rename_i hy
        by_cases hd : e = d
        · subst hd
          unfold betwAt at hy
          split at hy
          · cases hy
          · rename_i n1
            split at hy
            · cases hy
            · rename_i n2
              cases hk : kn x
              · exfalso
                rcases hx with rfl | rfl
                · exact n1 ⟨hl, hh, hk⟩
                · exact n2 ⟨hl, hh, hk⟩
              · rfl
        · exact ih m (d + 1) hb e (by omega) (by push_cast at h2; omega) x hx hl hh
  intro x hl hh
  by_cases hm : (low + high) / 2 ≤ x
  · exact key _ _ _ h (x - (low + high) / 2) (by omega) (by omega) x (.inl (by omega)) hl hh
  · exact key _ _ _ h ((low + high) / 2 - x) (by omega) (by omega) x (.inr (by omega)) hl hh

inductive Ph where
  | first
  | last
  | loop (kn : Int → Bool) (lo hi : Int) (t : Nat)
def Ph.at_ (N : Nat) : Ph → Int
  | .first => 0
  | .last => N - 1
  | .loop kn lo hi _ => betw kn lo hi
def contF (N T : Nat) (ans : List Int) : Ph → Nat → Option (Int ⊕ (Int × Int × Int × Nat))
  | .first, u => match ver ans T u 3 with
    | none => some (.inl 0)
    | some (x, u) => if x ≠ 1 then some (.inr (7, 0, N - 1, u)) else match ver ans T u 3 with
      | none => some (.inl (N - 1))
      | some (y, u') => if y ≠ 2 then some (.inr (7, 0, N - 1, u')) else bisI ans T (N + 1) kn0 0 (N - 1) u'
  | .last, u => match ver ans T u 3 with
    | none => some (.inl (N - 1))
    | some (y, u') => if y ≠ 2 then some (.inr (7, 0, N - 1, u')) else bisI ans T (N + 1) kn0 0 (N - 1) u'
  | .loop kn lo hi t, u => bisI ans T t kn lo hi u
/-- What is known in a phase. -/
def Ph.Inv (N T : Nat) (K : Int → Nat) : Ph → Prop
  | .first => True
  | .last => jud (K 0) T = 1
  | .loop kn lo hi _ => jud (K lo) T = 1 ∧ jud (K hi) T = 2 ∧ 0 ≤ lo ∧ lo < hi ∧ hi < N ∧ ∀ x, lo < x → x < hi → kn x = true → jud (K x) T = 3
def Ph.Dn (N : Nat) : Ph → Int → Prop
  | .first => fun _ => False
  | .last => fun x => x = 0
  | .loop kn _ _ _ => fun x => x = 0 ∨ x = N - 1 ∨ kn x = true
/-- What has been asked: how often each version. -/
structure Asked (N T : Nat) (ans : List Int) (ak : List Nat) : Prop where
  len : ak.length = N
  sum : ak.sum = ans.length
  le : ∀ x ∈ ak, x ≤ T
/-- The result is ak it ought to be. -/
structure Good (N T : Nat) (K : Int → Nat) (lo hi : Int) : Prop where
  lo0 : 0 ≤ lo
  lt : lo < hi
  hiN : hi < N
  pass : jud (K lo) T = 1
  fail : jud (K hi) T = 2
  mid : ∀ x, lo < x → x < hi → jud (K x) T = 3
inductive BSt (N T : Nat) (K : Int → Nat) (ans : List Int) (ak : List Nat) : Prop where
  | ask (ph : Ph) (pre : List Int) (c : Nat) (ha : ans = pre ++ (List.range c).map (rep (K (ph.at_ N)))) (hc : c < lenK (K (ph.at_ N)) T) (hf : ∀ a', pre <+: a' → bisAll N T a' = contF N T a' ph pre.length)
    (hi : ph.Inv N T K) (v0 : 0 ≤ ph.at_ N) (hv : ak[(ph.at_ N).toNat]? = some c) (hz : ∀ x : Nat, x < N → (x : Int) ≠ ph.at_ N → ¬ ph.Dn N x → ak[x]? = some 0) (hk : Asked N T ans ak)
  | err (h : ∃ u, bisAll N T ans = some (.inr (7, 0, N - 1, u))) (hj : jud (K 0) T ≠ 1 ∨ jud (K (N - 1)) T ≠ 2)
  | fin (lo hi : Int) (h : bisAll N T ans = some (.inr (0, lo, hi, ans.length))) (hg : Good N T K lo hi)

theorem at_lt {N T : Nat} {K : Int → Nat} {ph : Ph} (h2 : 2 ≤ N) (hi : ph.Inv N T K) (v0 : 0 ≤ ph.at_ N) : ph.at_ N < N := by
  cases ph with
  | first => simp [Ph.at_]; omega
  | last => simp [Ph.at_]; omega
  | loop kn lo hi' t =>
    have := betw_range v0
    obtain ⟨_, _, _, _, h, _⟩ := hi
    simp only [Ph.at_] at *
    omega

theorem bst_start {N T : Nat} {K : Int → Nat} {ans : List Int} {ak : List Nat} (h2 : 2 ≤ N) (hT : 1 ≤ T) (ph : Ph) (hf : ∀ a', ans <+: a' → bisAll N T a' = contF N T a' ph ans.length) (hi : ph.Inv N T K)
    (hz : ∀ x : Nat, x < N → ¬ ph.Dn N x → ak[x]? = some 0) (hk : Asked N T ans ak) : BSt N T K ans ak := by
  have mk : ∀ (v0 : 0 ≤ ph.at_ N) (hd : ¬ ph.Dn N (ph.at_ N)), BSt N T K ans ak := fun v0 hd => by
    have hlt := at_lt h2 hi v0
    exact .ask ph ans 0 (by simp) (by have := @lenK_le (K (ph.at_ N)) T hT; omega) hf hi v0 (hz _ (by omega) (by rwa [Int.toNat_of_nonneg v0])) (fun x h _ => hz x h) hk
  cases ph with
  | first => exact mk (by simp [Ph.at_]) (by simp [Ph.Dn])
  | last => exact mk (by simp [Ph.at_]; omega) (by simp [Ph.Dn, Ph.at_]; omega)
  | loop kn lo hi' t =>
    by_cases hv : betw kn lo hi' < 0
    · have hb := hf ans (List.prefix_refl _)
      obtain ⟨a1, a2, a3, a4, a5, a6⟩ := hi
      refine .fin lo hi' ?_ ⟨a3, a4, a5, a1, a2, fun x h1 h2 => a6 x h1 h2 (betw_none hv a3 x h1 h2)⟩
      rw [hb, contF]
      cases t with
      | zero => exact absurd (hb.trans (by rw [contF, bisI])) (bisAll_some _ _ _)
      | succ t => simp [bisI, hv]
    · have hr := betw_range (kn := kn) (low := lo) (high := hi') (by omega)
      obtain ⟨a1, a2, a3, a4, a5, a6⟩ := hi
      exact mk (by simp [Ph.at_]; omega) (by simp [Ph.Dn, Ph.at_, hr.2.2]; omega)

theorem part_at {pre : List Int} {k c : Nat} (i : Nat) (hi : i < c) {ans : List Int} (h : pre ++ (List.range c).map (rep k) <+: ans) : ans[pre.length + i]? = some (rep k i) := by
  obtain ⟨r, rfl⟩ := h
  rw [List.append_assoc, List.getElem?_append_right (by omega)]
  simp [List.getElem?_append_left, hi]

theorem contF_ask {N T : Nat} {ans : List Int} {ph : Ph} {u : Nat} (h : ver ans T u 3 = none) (v0 : 0 ≤ ph.at_ N) (hn : contF N T ans ph u ≠ none) : contF N T ans ph u = some (.inl (ph.at_ N)) := by
  cases ph with
  | first => simp [contF, h, Ph.at_]
  | last => simp [contF, h, Ph.at_]
  | loop kn lo hi t =>
    simp only [contF] at hn ⊢
    cases t with
    | zero => simp [bisI] at hn
    | succ t =>
      simp only [Ph.at_] at v0 ⊢
      simp [bisI, h, show ¬ betw kn lo hi < 0 by omega]

theorem asked_set {N T : Nat} {ans : List Int} {ak : List Nat} {v c : Nat} (h : Asked N T ans ak) (hv : ak[v]? = some c) (hc : c < T) (a : Int) : Asked N T (ans ++ [a]) (ak.set v (c + 1)) := by
  refine ⟨by simpa using h.len, ?_, fun x hx => ?_⟩
  · have : ∀ (l : List Nat) (v c : Nat), l[v]? = some c → (l.set v (c + 1)).sum = l.sum + 1 := by
      intro l
      induction l with
      | nil => intro v c h; simp at h
      | cons y ys ih =>
        intro v c h
        cases v with
        | zero => simp at h; subst h; simp; omega
        | succ v => simp at h; simp [ih v c h]; omega
    rw [this ak v c hv, h.sum]; simp
  · rcases List.mem_or_eq_of_mem_set hx with h1 | h1
    · exact h.le x h1
    · omega

/-- A step of the search that is asked. -/
theorem bst_step {N T : Nat} {K : Int → Nat} {ans : List Int} {ak : List Nat} (h2 : 2 ≤ N) (hT : 1 ≤ T) (hK : ∀ x, K x < 4) (h : BSt N T K ans ak) :
    (∃ (v c : Nat), bisAll N T ans = some (.inl v) ∧ v < N ∧ ak[v]? = some c ∧ c < T ∧ BSt N T K (ans ++ [rep (K v) c]) (ak.set v (c + 1))) ∨
    ((∃ u, bisAll N T ans = some (.inr (7, 0, N - 1, u))) ∧ (jud (K 0) T ≠ 1 ∨ jud (K (N - 1)) T ≠ 2)) ∨
    (∃ lo hi : Int, bisAll N T ans = some (.inr (0, lo, hi, ans.length)) ∧ Good N T K lo hi) := by
  rcases h with ⟨ph, pre, c, ha, hc, hf, hi, v0, hv, hz, hk⟩ | ⟨h, hj⟩ | ⟨lo, hi, h, hg⟩
  · left
    have hlt := at_lt h2 hi v0
    have hcT : c < T := by have := @lenK_le (K (ph.at_ N)) T hT; omega
    obtain ⟨v, hvv⟩ : ∃ v : Nat, ph.at_ N = v := ⟨(ph.at_ N).toNat, by omega⟩
    have hav : ak[v]? = some c := by rw [hvv] at hv; simpa using hv
    refine ⟨v, c, ?_, by omega, hav, hcT, ?_⟩
    · have hp : pre <+: ans := ⟨_, ha.symm⟩
      have hb := hf ans hp
      rw [hb, contF_ask (ver_part hT (hK (ph.at_ N)) hc (by rw [ha]; simp) (fun i hi => part_at i hi (by rw [ha]; exact List.prefix_refl _))) v0 (by rw [← hb]; exact bisAll_some _ _ _), hvv]
    · have hans : ans ++ [rep (K v) c] = pre ++ (List.range (c + 1)).map (rep (K (ph.at_ N))) := by
        rw [ha, hvv, List.range_succ]; simp
      by_cases hc1 : c + 1 < lenK (K (ph.at_ N)) T
      · refine .ask ph pre (c + 1) hans hc1 hf hi v0 ?_ ?_ (asked_set hk hav hcT _)
        · rw [hvv]; simp [(List.getElem?_eq_some_iff.1 hav).1]
        · intro x hx hxv hxd
          rw [List.getElem?_set_ne (by intro e; subst e; exact hxv hvv.symm)]
          exact hz x hx hxv hxd
      · have hce : c + 1 = lenK (K (ph.at_ N)) T := by omega
        have hlen : (ans ++ [rep (K v) c]).length = pre.length + lenK (K (ph.at_ N)) T := by rw [hans, ← hce]; simp
        have hver : ∀ a', (ans ++ [rep (K v) c]) <+: a' → ver a' T pre.length 3 = some (jud (K (ph.at_ N)) T, (ans ++ [rep (K v) c]).length) := fun a' hp => by
          rw [ver_full hT (hK _) (fun i hi => part_at i hi (by rw [← hce, ← hans]; exact hp)), hlen]
        have hpre : ∀ a', (ans ++ [rep (K v) c]) <+: a' → pre <+: a' := fun a' hp => by
          refine List.IsPrefix.trans ?_ hp
          rw [hans]; exact List.prefix_append _ _
        have hk2 := asked_set (T := T) hk hav hcT (rep (K v) c)
        have hz2 : ∀ x : Nat, x < N → x ≠ v → ¬ ph.Dn N x → (ak.set v (c + 1))[x]? = some 0 := fun x hx hxv hxd => by
          rw [List.getElem?_set_ne (by omega)]
          exact hz x hx (by rw [hvv]; omega) hxd
        generalize ans ++ [rep (K v) c] = ans2 at *
        generalize ak.set v (c + 1) = as2 at *
        have hmain : ∀ ph2 : Ph, (∀ a', ans2 <+: a' → bisAll N T a' = contF N T a' ph2 ans2.length) → ph2.Inv N T K → (∀ x : Nat, x < N → ¬ ph2.Dn N x → x ≠ v ∧ ¬ ph.Dn N x) → BSt N T K ans2 as2 := fun ph2 h1 h3 h4 =>
          bst_start h2 hT ph2 h1 h3 (fun x hx hd => hz2 x hx (h4 x hx hd).1 (h4 x hx hd).2) hk2
        cases ph with
        | first =>
          simp only [Ph.at_] at *
          have hv0 : v = 0 := by omega
          by_cases hj : jud (K 0) T = 1
          · refine hmain .last (fun a' hp => ?_) hj (fun x hx hd => ⟨?_, by simp [Ph.Dn]⟩)
            · rw [hf a' (hpre a' hp)]
              simp [contF, hver a' hp, hj]
            · simp [Ph.Dn] at hd; omega
          · refine .err ⟨ans2.length, ?_⟩ (.inl hj)
            rw [hf ans2 (hpre _ (List.prefix_refl _))]
            simp [contF, hver _ (List.prefix_refl _), hj]
        | last =>
          simp only [Ph.at_] at *
          by_cases hj : jud (K (N - 1)) T = 2
          · refine hmain (.loop kn0 0 (N - 1) (N + 1)) (fun a' hp => ?_) ⟨hi, hj, by omega, by omega, by omega, by simp [kn0]⟩ (fun x hx hd => ?_)
            · rw [hf a' (hpre a' hp)]
              simp [contF, hver a' hp, hj]
            · simp [Ph.Dn, kn0] at hd
              exact ⟨by omega, by simp [Ph.Dn]; omega⟩
          · refine .err ⟨ans2.length, ?_⟩ (.inr hj)
            rw [hf ans2 (hpre _ (List.prefix_refl _))]
            simp [contF, hver _ (List.prefix_refl _), hj]
        | loop kn lo hi' t =>
          simp only [Ph.at_] at *
          obtain ⟨a1, a2, a3, a4, a5, a6⟩ := hi
          have hr := betw_range v0
          rw [hvv] at hr
          cases t with
          | zero => exact absurd ((hf ans2 (hpre _ (List.prefix_refl _))).trans (by rw [contF, bisI])) (bisAll_some _ _ _)
          | succ t =>
            refine hmain (.loop (fun i => i == betw kn lo hi' || kn i) (if jud (K (betw kn lo hi')) T = 1 then betw kn lo hi' else lo) (if jud (K (betw kn lo hi')) T = 2 then betw kn lo hi' else hi') t) (fun a' hp => ?_) ?_ (fun x hx hd => ?_)
            · rw [hf a' (hpre a' hp)]
              simp only [contF]
              rw [bisI]
              simp only [hver a' hp]
              rw [if_neg (by omega)]
            · rw [hvv]
              have hj3 : ∀ k T, jud k T = 1 ∨ jud k T = 2 ∨ jud k T = 3 := fun k T => by unfold jud; (repeat' split) <;> omega
              refine ⟨?_, ?_, ?_, ?_, ?_, ?_⟩
              · split <;> assumption
              · split <;> assumption
              · split <;> omega
              · split <;> split <;> omega
              · split <;> omega
              · intro x h1 h2 h3
                by_cases hxv : x = v
                · subst hxv
                  rcases hj3 (K v) T with hj | hj | hj
                  · rw [if_pos hj] at h1; omega
                  · rw [if_pos hj] at h2; omega
                  · exact hj
                · have hkx : kn x = true := by simpa [hxv] using h3
                  refine a6 x ?_ ?_ hkx
                  · split at h1 <;> omega
                  · split at h2 <;> omega
            · simp only [Ph.Dn] at hd ⊢
              rw [hvv] at hd
              refine ⟨fun e => hd (.inr (.inr (by simp [e]))), fun e => hd ?_⟩
              rcases e with e | e | e
              · exact .inl e
              · exact .inr (.inl e)
              · exact .inr (.inr (by simp [e]))
  · exact .inr (.inl ⟨h, hj⟩)
  · exact .inr (.inr ⟨lo, hi, h, hg⟩)

theorem bst_init {N T : Nat} {K : Int → Nat} (h2 : 2 ≤ N) (hT : 1 ≤ T) : BSt N T K [] (List.replicate N 0) :=
  bst_start h2 hT .first (fun a' _ => by unfold bisAll contF; rfl) trivial (fun x hx _ => by simp [hx]) ⟨by simp, by simp, by simp⟩
theorem asked_sum {N T : Nat} {ans : List Int} {ak : List Nat} (h : Asked N T ans ak) : ans.length ≤ N * T := by
  rw [← h.sum, ← h.len]
  have : ∀ l : List Nat, (∀ x ∈ l, x ≤ T) → l.sum ≤ l.length * T := by
    intro l
    induction l with
    | nil => simp
    | cons y ys ih =>
      intro h
      have h1 := ih (fun x hx => h x (by simp [hx]))
      have h2 := h y (by simp)
      rw [List.sum_cons, List.length_cons, Nat.succ_mul]; omega
  exact this ak h.le

/-- The law's last loop: from version n - 1 down. -/
def sortStep (x : Int) (v : Int) (s : Int × Bool) : Int × Bool := (if x = 2 then v else s.1, s.2 && (decide (x = 2) && decide (s.1 = v + 1) || decide (x = 1)))
/-- The loop from version n - 1 down to k. -/
def sortTo (J : Int → Int) (n : Int) : Nat → Int × Bool
  | 0 => (n, true)
  | t + 1 => sortStep (J (n - (t + 1))) (n - (t + 1)) (sortTo J n t)
theorem sort_spec {J : Int → Int} {n : Int} : ∀ t : Nat, (sortTo J n t).2 = true → (n - t ≤ (sortTo J n t).1 ∧ (sortTo J n t).1 ≤ n) ∧ ∀ x, n - t ≤ x → x < n → (J x = 1 ∨ J x = 2) ∧ (J x = 2 ↔ (sortTo J n t).1 ≤ x)
  | 0, _ => ⟨by simp [sortTo], fun x h1 h2 => by simp at h1; omega⟩
  | t + 1, h => by
    rw [sortTo] at h ⊢
    simp only [sortStep, Bool.and_eq_true, Bool.or_eq_true, decide_eq_true_eq] at h ⊢
    obtain ⟨h1, h2⟩ := sort_spec t h.1
    by_cases hj : J (n - (t + 1)) = 2
    · have hf : (sortTo J n t).1 = n - (t + 1) + 1 := by omega
      rw [if_pos hj]
      refine ⟨by push_cast; omega, fun x a b => ?_⟩
      by_cases hx : x = n - (t + 1)
      · subst hx; exact ⟨.inr hj, by simp [hj]⟩
      · have := h2 x (by push_cast at a; omega) b
        refine ⟨this.1, ?_⟩
        rw [this.2]; omega
    · rw [if_neg hj]
      have hj1 : J (n - (t + 1)) = 1 := by omega
      refine ⟨by push_cast; omega, fun x a b => ?_⟩
      by_cases hx : x = n - (t + 1)
      · subst hx
        refine ⟨.inl hj1, ?_⟩
        rw [hj1]; omega
      · have := h2 x (by push_cast at a; omega) b
        exact ⟨this.1, this.2⟩
/-- If the verdicts are sorted, the bisection ends at the first bad one. -/
theorem sort_good {N T : Nat} {K : Int → Nat} {lo hi : Int} (hg : Good N T K lo hi) (hs : (sortTo (fun x => jud (K x) T) N N).2 = true) : lo = (sortTo (fun x => jud (K x) T) N N).1 - 1 ∧ hi = (sortTo (fun x => jud (K x) T) N N).1 := by
  obtain ⟨h1, h2⟩ := sort_spec N hs
  obtain ⟨a1, a2, a3, a4, a5, a6⟩ := hg
  have b1 := h2 lo (by omega) (by omega)
  have b2 := h2 hi (by omega) (by omega)
  have e : hi = lo + 1 := by
    by_cases he : hi = lo + 1
    · exact he
    · have c1 := a6 (lo + 1) (by omega) (by omega)
      have c2 := (h2 (lo + 1) (by omega) (by omega)).1
      omega
  omega
end Go.Proofs.Ytjpbmbonccenfaa
