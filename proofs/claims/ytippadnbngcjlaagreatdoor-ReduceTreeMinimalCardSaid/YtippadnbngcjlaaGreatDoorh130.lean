/- Texts of this seat, one behind the other: RChg, IChg, IChg2. -/
import Derived.Test.YtippadnbngcjlaaGreatDoorh128
import Derived.Test.YtippadnbngcjlaaGreatDoorh129
import Derived.Test.YtippadnbngcjlaaGreatDoorh127
namespace Go.Proofs.YtippadnbngcjlaaGreatDoor
set_option linter.unusedVariables false

/- Changes of the reference. -/
section
open Go.RowKit
def finT (ans : List Int) : List Int ⊕ (Res × (Nat × Kn)) → Qst × Int
 | .inl q => (⟨false, q, [], []⟩, 0)
 | .inr ((er, kept, pass), (u, _)) => endOf false [] er (decide (u < ans.length)) kept pass
theorem qOf_fin {ans : List Int} (h : ¬ 4096 < ans.length) (t : Tr (List Int) Int Res) : qOf ans t = finT ans (t.go (askS ans) (0, [])) := by
 unfold qOf finT
 rw [if_neg h]
 rfl
end

/- Changes of the program: the function that run is handed. -/
section
open Go.RowKit
def SetDo (w1 : World) (s km bc h0 h1 : Nat) (ans : List Int) (r : List Int ⊕ (Res × (Nat × Kn))) (e : Ending) (w' : World) : Prop :=
 match r with
 | .inl q => DoAsk w1 s km [bc] (fun W => ∃ cd, CandAt W bc (Out h0 h1) cd ∧ cd.length ≤ 256) q e w'
 | .inr ((er, kept, _), (u, _)) => DoEnd w1 s km ans [bc] (fun W => ∃ cd, CandAt W bc (Out h0 h1) cd ∧ cd.length ≤ 256 ∧ (er = 0 → cd = kept)) er u e w'
theorem SK.farS {w : World} {s km used b n c : Nat} {A : Option Addr} {ans : List Int} {kn : Kn} {t : TypeId} (h : SK w s km ans used kn) (hb : Blk w b t #[.slice A n c]) (hne : s ≠ b) (hkm : km ≠ b) (u : Value) : SK (w.setCell ⟨b, 0, none⟩ u) s km ans used kn :=
 ⟨h.srch.farS hb hne u, h.map.fr ((Fr.refl [b] w).setCell (.inl (by simp)) u) (by simpa using hkm), h.ne, h.le⟩
theorem SK.drewN {w : World} {s km used : Nat} {ans : List Int} {kn : Kn} (h : SK w s km ans used kn) (n : Nat) : SK (w.drewN n) s km ans used kn := h.fr0 ((Fr.refl _ _).drewN n)
theorem SK.lt {w : World} {s km used : Nat} {ans : List Int} {kn : Kn} (h : SK w s km ans used kn) : s < w.heap.size := by
 obtain ⟨A, c, hb, _⟩ := h.srch.ex
 exact hb.lt
theorem i64_of {n : Nat} {q : List Int} (h : isSet n q = true) (hn : n ≤ 1000000) : I64 q := fun x hx => by
 have := (isSet_iff.1 h).1 x hx
 omega
end

/- Changes of the program. -/
section
open Go.RowKit
theorem AtDo.sk {w w1 : World} {ans : List Int} (h : AtDo w w1 ans) : SK w1 (w.heap.size + 1 + 1) (w.heap.size + 1) ans 0 [] :=
 ⟨h.srch, h.map, by omega, Nat.zero_le _⟩
theorem fin_ask {ans q cd : List Int} {r : List Int ⊕ (Res × (Nat × Kn))} (h : r = .inl q) : finT ans r = questOf q cd false 0 := by
 subst h
 simp [finT, questOf]
theorem fin_end {ans kept cd : List Int} {er : Int} {u : Nat} {kn : Kn} {r : List Int ⊕ (Res × (Nat × Kn))} (h : r = .inr ((er, kept, []), (u, kn))) (hc : er = 0 → cd = kept) :
  finT ans r = questOf [] cd (decide (er = 0 ∧ ans.length ≤ u)) (if er ≠ 0 then er else if u < ans.length then 8 else 0) := by
 subst h
 unfold finT endOf questOf
 by_cases he : er = 0
 ·subst he
  by_cases hu : u < ans.length
  ·simp [hu]
  ·simp [hu, hc rfl]
 ·simp [he]
end

end Go.Proofs.YtippadnbngcjlaaGreatDoor
