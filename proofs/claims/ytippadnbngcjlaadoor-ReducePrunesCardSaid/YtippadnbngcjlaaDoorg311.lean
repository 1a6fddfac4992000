/- Texts of this seat, one behind the other: Close. -/
import Derived.Test.YtippadnbngcjlaaDoorg34
import Derived.WalkSpells
/- closed, Close. -/
namespace Go.Proofs.YtippadnbngcjlaaDoor
open Go.RowKit
set_option linter.unusedVariables false

/-- Is a number set? -/
def inB (bs : List Bool) (i : Int) : Bool := decide (0 ≤ i) && bs.getD i.toNat false
/-- What a change needs. -/
def needsOf (L : List (List Int)) (x : Int) : List Int := L.getD x.toNat []
/-- The smallest closed set that contains a set. -/
structure IsCl (L : List (List Int)) (set : List Int) (C : Int → Bool) : Prop where
  base : ∀ x ∈ set, C x = true
  step : ∀ x, C x = true → ∀ y ∈ needsOf L x, C y = true
  least : ∀ D : Int → Bool, (∀ x ∈ set, D x = true) → (∀ x, D x = true → ∀ y ∈ needsOf L x, D y = true) → ∀ x, C x = true → D x = true

/-- Between two rounds: what is in, what is still to do. -/
structure ClInv (L : List (List Int)) (set : List Int) (bs : List Bool) (T : List Int) : Prop where
  base : ∀ x ∈ set, inB bs x = true ∨ x ∈ T
  step : ∀ x, inB bs x = true → ∀ y ∈ needsOf L x, inB bs y = true ∨ y ∈ T
  least : ∀ D : Int → Bool, (∀ x ∈ set, D x = true) → (∀ x, D x = true → ∀ y ∈ needsOf L x, D y = true) → (∀ x, inB bs x = true → D x = true) ∧ ∀ x ∈ T, D x = true

theorem inB_set {bs : List Bool} {x : Int} (h0 : 0 ≤ x) (h1 : x.toNat < bs.length) (i : Int) : inB (bs.set x.toNat true) i = (inB bs i || decide (i = x)) := by
  unfold inB
  by_cases hi : 0 ≤ i
  · by_cases he : i = x
    · subst he; simp [hi, h1]
    · have : x.toNat ≠ i.toNat := by omega
      simp [hi, he, List.getElem?_set_ne this]
  · have : ¬ i = x := by omega
    simp [hi, this]
theorem ClInv.start (L : List (List Int)) (set : List Int) (n : Nat) : ClInv L set (List.replicate n false) set := by
  have h : ∀ x, inB (List.replicate n false) x = false := fun x => by
    unfold inB
    by_cases hx : x.toNat < n <;> simp [hx]
  exact ⟨fun x hx => .inr hx, (fun x hx => by rw [h] at hx; cases hx), fun D h1 _ => ⟨(fun x hx => by rw [h] at hx; cases hx), h1⟩⟩
theorem ClInv.old {L : List (List Int)} {set T : List Int} {bs : List Bool} {x : Int} (h : ClInv L set bs (T ++ [x])) (hx : inB bs x = true) : ClInv L set bs T := by
  refine ⟨fun y hy => ?_, fun y hy z hz => ?_, fun D h1 h2 => ⟨(h.least D h1 h2).1, fun y hy => (h.least D h1 h2).2 y (by simp [hy])⟩⟩
  · rcases h.base y hy with h1 | h1
    · exact .inl h1
    · rcases List.mem_append.1 h1 with h1 | h1
      · exact .inr h1
      · simp at h1; subst h1; exact .inl hx
  · rcases h.step y hy z hz with h1 | h1
    · exact .inl h1
    · rcases List.mem_append.1 h1 with h1 | h1
      · exact .inr h1
      · simp at h1; subst h1; exact .inl hx
theorem ClInv.new_ {L : List (List Int)} {set T l : List Int} {bs : List Bool} {x : Int} (h : ClInv L set bs (T ++ [x])) (h0 : 0 ≤ x) (h1 : x.toNat < bs.length) (hl : needsOf L x = l) : ClInv L set (bs.set x.toNat true) (T ++ l) := by
  have hs := inB_set h0 h1
  refine ⟨fun y hy => ?_, fun y hy z hz => ?_, fun D d1 d2 => ?_⟩
  · rw [hs]
    rcases h.base y hy with a | a
    · simp [a]
    · rcases List.mem_append.1 a with a | a
      · exact .inr (by simp [a])
      · simp at a; subst a; simp
  · rw [hs] at hy ⊢
    rcases Bool.or_eq_true _ _ ▸ hy with a | a
    · rcases h.step y a z hz with b | b
      · simp [b]
      · rcases List.mem_append.1 b with b | b
        · exact .inr (by simp [b])
        · simp at b; subst b; simp
    · simp at a; subst a
      rw [hl] at hz
      exact .inr (by simp [hz])
  · have hd := h.least D d1 d2
    have hx : D x = true := hd.2 x (by simp)
    refine ⟨fun y hy => ?_, fun y hy => ?_⟩
    · rw [hs] at hy
      rcases Bool.or_eq_true _ _ ▸ hy with a | a
      · exact hd.1 y a
      · simp at a; subst a; exact hx
    · rcases List.mem_append.1 hy with a | a
      · exact hd.2 y (by simp [a])
      · exact d2 x hx y (by rw [hl]; exact a)
theorem ClInv.done {L : List (List Int)} {set : List Int} {bs : List Bool} (h : ClInv L set bs []) : IsCl L set (inB bs) :=
  ⟨fun x hx => (h.base x hx).resolve_right (by simp), fun x hx y hy => (h.step x hx y hy).resolve_right (by simp), fun D d1 d2 => (h.least D d1 d2).1⟩

/-- How much is still to come. -/
def wt : List (List Int) → List Bool → Nat
  | l :: L, b :: bs => (if b then 0 else l.length + 1) + wt L bs
  | _, _ => 0
theorem wt_set : ∀ {L : List (List Int)} {bs : List Bool} {k : Nat} {l : List Int}, bs[k]? = some false → L[k]? = some l → wt L (bs.set k true) + (l.length + 1) = wt L bs
  | [], _, _, _, _, h => by simp at h
  | _ :: _, [], _, _, h, _ => by simp at h
  | l0 :: L, b :: bs, 0, l, h, h' => by
    simp at h h'
    subst h h'
    simp [wt]; omega
  | l0 :: L, b :: bs, k + 1, l, h, h' => by
    have := wt_set (L := L) (bs := bs) (k := k) (l := l) (by simpa using h) (by simpa using h')
    simp [wt]; omega

/-- All numbers in range. -/
def InR (n : Nat) (T : List Int) : Prop := ∀ x ∈ T, 0 ≤ x ∧ x < n

def ClosedPost (w : World) (L : List (List Int)) (set : List Int) (e : Ending) (w' : World) : Prop :=
  ∃ bs : List Bool, bs.length = L.length ∧ IsCl L set (inB bs) ∧ RetN w 3 (pickedOf bs) e w'

/-- The loop's relation. -/
def ClRel (w : World) (L : List (List Int)) (set : List Int) (B0 B1 t : Nat) (v : Value) (wr : World) : Prop :=
  ∃ (bs : List Bool) (T : List Int) (A : Option Addr) (n c : Nat), v = .slice A n c ∧ Hid (n = T.length) ∧ wr.ownsRow B1 3 1 (.slice A n c) n (T.map (.int .i64)) ∧
    Blk wr B0 4 (bs.map Value.bool).toArray ∧ bs.length = L.length ∧ Hid (InR L.length T) ∧ Hid (ClInv L set bs T) ∧ Hid (t = n + wt L bs) ∧ t ≤ 1000000 ∧ Fr [] w wr

theorem makeBools {P : Program} {t e : TypeId} {w0 : World} {H n : Nat} (h : w0.ownsRow H e 1 (.slice (some ⟨H, 0, none⟩) n n) n (List.replicate n (.bool false))) (hn : 0 < n ∨ ∃ cs, w0.heap[H]? = some (.cells cs e (0, 0)) ∧ cs.size = n) : Blk w0 H e ((List.replicate n false).map Value.bool).toArray := by
  rcases h.2 with ⟨he, _⟩ | ⟨g', cap, cur, he, _, hh, hnc, _, hsz, htk⟩
  · simp at he
  · injection he with e1 e2 e3
    injection e1 with e1
    injection e1 with e1
    subst e1 e3
    have : cur = ((List.replicate n false).map Value.bool).toArray := by
      have hc : cur.toList.length = n := by simp [hsz]
      rw [List.take_of_length_le (by omega)] at htk
      simp only [List.map_replicate]
      rw [← htk]
    subst this
    exact hh

end Go.Proofs.YtippadnbngcjlaaDoor
