/- Texts of this seat, one behind the other: RChg, IChg, IChg2. -/
import Derived.Test.YtippadnbngcjlaaDoorg331
import Derived.Test.YtippadnbngcjlaaDoorg332
import Derived.Test.YtippadnbngcjlaaDoorg333
/- Changes of the reference. -/
namespace Go.Proofs.YtippadnbngcjlaaDoor
open Go.RowKit
set_option linter.unusedVariables false

theorem askV_len {ans : List Int} {u u' : Nat} {kn kn' : Kn} {q : List Int} {v : Int} (h : askV ans u kn q = some (v, u', kn')) (hk : kn.length = u) (hu : u ≤ ans.length) : kn'.length = u' ∧ u' ≤ ans.length := by
  rcases hl : @List.lookup (List Int) Int instBEqOfDecidableEq q kn with _ | v'
  · rcases ha : ans[u]? with _ | a
    · rw [askV_ask hl ha] at h; cases h
    · rw [askV_got hl ha] at h
      simp only [Option.some.injEq, Prod.mk.injEq] at h
      obtain ⟨rfl, rfl, rfl⟩ := h
      have := (List.getElem?_eq_some_iff.1 ha).1
      simp; omega
  · rw [askV_known hl] at h
    simp only [Option.some.injEq, Prod.mk.injEq] at h
    obtain ⟨rfl, rfl, rfl⟩ := h
    exact ⟨hk, hu⟩
/-- What a search comes to when it has gone as far as it can. -/
def finT (ans : List Int) : List Int ⊕ (Res × (Nat × Kn)) → Qst × Int
  | .inl q => (⟨false, q, [], []⟩, 0)
  | .inr ((er, kept, pass), (u, _)) => endOf false [] er (decide (u < ans.length)) kept pass
theorem qOf_fin {ans : List Int} (h : ¬ 4096 < ans.length) (t : Tr (List Int) Int Res) : qOf ans t = finT ans (t.go (askS ans) (0, [])) := by
  unfold qOf finT
  rw [if_neg h]
  rfl

end Go.Proofs.YtippadnbngcjlaaDoor

/- Changes of the program: the function that run is handed. -/
namespace Go.Proofs.YtippadnbngcjlaaDoor
open Go.RowKit
set_option linter.unusedVariables false

/-- What the function that run is handed has done. -/
def SetDo (w1 : World) (s km bc h0 h1 : Nat) (ans : List Int) (r : List Int ⊕ (Res × (Nat × Kn))) (e : Ending) (w' : World) : Prop :=
  match r with
  | .inl q => DoAsk w1 s km [bc] (fun W => ∃ cd, CandAt W bc (Out h0 h1) cd ∧ cd.length ≤ 256) q e w'
  | .inr ((er, kept, _), (u, _)) => DoEnd w1 s km ans [bc] (fun W => ∃ cd, CandAt W bc (Out h0 h1) cd ∧ cd.length ≤ 256 ∧ (er = 0 → cd = kept)) er u e w'
theorem SK.farS {w : World} {s km used b n c : Nat} {A : Option Addr} {ans : List Int} {kn : Kn} {t : TypeId} (h : SK w s km ans used kn) (hb : Blk w b t #[.slice A n c]) (hne : s ≠ b) (hkm : km ≠ b) (u : Value) : SK (w.setCell ⟨b, 0, none⟩ u) s km ans used kn :=
  ⟨h.srch.farS hb hne u, h.map.fr ((Fr.refl [b] w).setCell (.inl (by simp)) u) (by simpa using hkm), h.ne, h.le⟩
theorem SK.drewN {w : World} {s km used : Nat} {ans : List Int} {kn : Kn} (h : SK w s km ans used kn) (n : Nat) : SK (w.drewN n) s km ans used kn := h.fr0 ((Fr.refl _ _).drewN n)
theorem SK.lt {w : World} {s km used : Nat} {ans : List Int} {kn : Kn} (h : SK w s km ans used kn) : s < w.heap.size := by
  obtain ⟨A, c, hb, _⟩ := h.srch.ex
  exact hb.lt
theorem i64_of {n : Nat} {q : List Int} (h : isSet n q = true) (hn : n ≤ 1000000) : I64 q := fun x hx => by
  have := (isSet_iff.1 h).1 x hx
  omega
/-- Between two rounds. -/
def IChInv (w0 w1 : World) (ans : List Int) (L : List (List Int)) (full : List Int ⊕ (Res × (Nat × Kn))) (s km bc h0 h1 : Nat) (t : Nat) (v : Value) (wr : World) : Prop :=
  ∃ (set : List Int) (i used : Nat) (kn : Kn), v = .int .i64 i ∧ i ≤ set.length ∧ chgM set i < t ∧ Hid (isSet L.length set = true) ∧ Hid (isClosedB L set = true) ∧
    Hid (full = (chgT L t set i).go (askS ans) (used, kn)) ∧ SK wr s km ans used kn ∧ CandAt wr bc (Out h0 h1) set ∧ Fr [s, km, bc] w1 wr

end Go.Proofs.YtippadnbngcjlaaDoor

/- Changes of the program. -/
namespace Go.Proofs.YtippadnbngcjlaaDoor
open Go.RowKit
set_option linter.unusedVariables false

theorem AtDo.sk {w w1 : World} {ans : List Int} (h : AtDo w w1 ans) : SK w1 (w.heap.size + 1 + 1) (w.heap.size + 1) ans 0 [] :=
  ⟨h.srch, h.map, by omega, Nat.zero_le _⟩
theorem fin_ask {ans q cd : List Int} {r : List Int ⊕ (Res × (Nat × Kn))} (h : r = .inl q) : finT ans r = questOf q cd false 0 := by
  subst h
  simp [finT, questOf]
theorem fin_end {ans kept cd : List Int} {er : Int} {u : Nat} {kn : Kn} {r : List Int ⊕ (Res × (Nat × Kn))} (h : r = .inr ((er, kept, []), (u, kn))) (hc : er = 0 → cd = kept) :
    finT ans r = questOf [] cd (decide (er = 0 ∧ ans.length ≤ u)) (if er ≠ 0 then er else if u < ans.length then 8 else 0) := by
  subst h
  unfold finT endOf questOf
  by_cases he : er = 0
  · subst he
    by_cases hu : u < ans.length
    · simp [hu]
    · simp [hu, hc rfl]
  · simp [he]
theorem chgT_pass {L : List (List Int)} : ∀ (t : Nat) (set : List Int) (i : Nat), (chgT L t set i).Ends fun r => r.2.2 = []
  | 0, _, _ => rfl
  | t + 1, set, i => by
    by_cases h : i < set.length
    · rw [chgT_ask (List.getElem?_eq_getElem h)]
      intro v
      show Tr.Ends _ (if v = 2 then _ else _)
      by_cases hv : v = 2
      · rw [if_pos hv]; exact chgT_pass t _ _
      · rw [if_neg hv]; exact chgT_pass t _ _
    · rw [chgT_end h]; rfl
theorem changesT_pass (L : List (List Int)) : (changesT L).Ends fun r => r.2.2 = [] := fun v => by
  show Tr.Ends _ (if v = 2 then _ else _)
  by_cases hv : v = 2
  · rw [if_pos hv]; exact chgT_pass _ _ _
  · rw [if_neg hv]; rfl

end Go.Proofs.YtippadnbngcjlaaDoor
