/- Texts of this seat, one behind the other: RBis. -/
import Derived.Test.YtjpbmbonccenfaaDoort23
import Derived.Deep.LoopGhost
/- The reference's Bisect. -/
namespace Go.Proofs.YtjpbmbonccenfaaDoor
open Go.RowKit
set_option linter.unusedVariables false

/-- The loop of a bisection: so many rounds at most; what is known, low, high, how many answers were used. -/
def bisLoop (ans : List Int) (times : Nat) : Nat → (Int → Bool) → Int → Int → Nat → Qst × Int
  | 0, _, _, _, _ => (qNone, 0)
  | t + 1, kn, low, high, used =>
    let v := betw kn low high
    if v < 0 then endOf false [] 0 (decide (used < ans.length)) [low, high] []
    else match ver ans times used 3 with
      | none => (⟨false, [v], [], []⟩, 0)
      | some (x, u) => bisLoop ans times t (fun i => i == v || kn i) (if x = 1 then v else low) (if x = 2 then v else high) u
def kn0 : Int → Bool := fun _ => false
/-- Bisect. -/
def bisect (n times : Int) (ans : List Int) : Qst × Int :=
  if n < 2 then (qNone, 1) else if 256 < n ∨ 4096 < ans.length then (qNone, 3)
  else match ver ans (timesOf times).toNat 0 3 with
    | none => (⟨false, [0], [], []⟩, 0)
    | some (x, u) => if x ≠ 1 then (qNone, 7) else match ver ans (timesOf times).toNat u 3 with
      | none => (⟨false, [n - 1], [], []⟩, 0)
      | some (y, u') => if y ≠ 2 then (qNone, 7) else bisLoop ans (timesOf times).toNat (n.toNat + 1) kn0 0 (n - 1) u'

theorem ver_used {ans : List Int} : ∀ {t u : Nat} {o x : Int} {u' : Nat}, ver ans t u o = some (x, u') → u ≤ ans.length → u ≤ u' ∧ u' ≤ ans.length
  | 0, u, o, x, u', h, hu => by simp [ver] at h; omega
  | t + 1, u, o, x, u', h, hu => by
    unfold ver at h
    split at h
    · cases h
    · rename_i a ha
      have hlt : u < ans.length := (List.getElem?_eq_some_iff.1 ha).1
      split at h
      · simp at h; omega
      · have := ver_used h (by omega); omega

theorem betw_range {kn : Int → Bool} {low high : Int} (h : 0 ≤ betw kn low high) : low < betw kn low high ∧ betw kn low high < high ∧ kn (betw kn low high) = false := by
  have key : ∀ (t : Nat) (m d : Int), 0 ≤ betwFrom kn low high m t d → low < betwFrom kn low high m t d ∧ betwFrom kn low high m t d < high ∧ kn (betwFrom kn low high m t d) = false := by
    intro t
    induction t with
    | zero => intro m d h; simp [betwFrom] at h
    | succ t ih =>
      intro m d h
      unfold betwFrom at h ⊢
      split
      · rename_i x hx
        unfold betwAt at hx
        split at hx
        · rename_i hc
          injection hx with hx
          subst hx
          exact hc
        · split at hx
          · rename_i hc
            injection hx with hx
            subst hx
            exact hc
          · cases hx
      · rename_i hx
        simp only [hx] at h
        exact ih m (d + 1) h
  exact key _ _ _ h

theorem elemBools : Elem Tryd.prog 123 4 (.bool false) 1 1 := ⟨Tryd.underlying123, by kernel_rfl, rfl, by omega, by omega⟩

theorem Play.far {w : World} {bp used g : Nat} {ans want : List Int} {S T : Value} {stop : Bool} {bs : List Bool} {t : TypeId} (h : Play w bp ans used S T stop want) (hb : Blk w g t (bs.map Value.bool).toArray) (hne : bp ≠ g) (i : Nat) (u : Value) :
    Play (w.setCell ⟨g, i, none⟩ u) bp ans used S T stop want := by
  obtain ⟨A, c, B, d, hh, hr, hna, hr2, hnb⟩ := h.ex
  have hx : ∀ (k : IntKind) (j : Nat) (v : Value), (bs.map Value.bool).toArray[j]? = some v → ∀ x, v ≠ .int k x := by
    intro k j v hj x
    rw [List.getElem?_toArray, List.getElem?_map] at hj
    cases hb : bs[j]? <;> simp only [hb, Option.map_none, Option.map_some] at hj
    · cases hj
    · injection hj with hj
      subst hj
      simp
  exact ⟨A, c, B, d, hh.far (p := ⟨g, i, none⟩) hne u, hr.setCell (p := ⟨g, i, none⟩) (hr.apart hb (hx _)) u, hna, hr2.setCell (p := ⟨g, i, none⟩) (hr2.apart hb (hx _)) u, hnb⟩

theorem count_set {bs : List Bool} {i : Nat} (h : bs[i]? = some false) : (bs.set i true).count false + 1 = bs.count false := by
  induction bs generalizing i with
  | nil => simp at h
  | cons b bs ih =>
    cases i with
    | zero => simp at h; subst h; simp
    | succ i =>
      simp at h
      have := ih h
      simp [List.count_cons] at this ⊢
      omega
theorem known_set {kn : Int → Bool} {bs : List Bool} {v : Int} (h : Known kn bs) (h0 : 0 ≤ v) : Known (fun i => i == v || kn i) (bs.set v.toNat true) := by
  intro i hi
  simp at hi
  by_cases he : v.toNat = i
  · subst he
    simp [hi]; omega
  · rw [List.getElem?_set_ne he, h i hi]
    have : ((i : Int) == v) = false := by simp; omega
    simp [this]

/-- Between two rounds. -/
def BisInv (w : World) (N : Nat) (times : Int) (ans : List Int) (bp g B : Nat) (t : Nat) (low high : Value) (wr : World) : Prop :=
  ∃ (kn : Int → Bool) (bs : List Bool) (lo hi : Int) (u : Nat), low = .int .i64 lo ∧ high = .int .i64 hi ∧ 0 ≤ lo ∧ lo < hi ∧ hi < N ∧ u ≤ ans.length ∧ bs.length = N ∧ Hid (Known kn bs) ∧ t = bs.count false + 1 ∧
    Hid (bisect N times ans = bisLoop ans (timesOf times).toNat t kn lo hi u) ∧ Play wr bp ans u (.slice none 0 0) (.slice none 0 0) false [] ∧ Blk wr g 34 #[.bool false, .slice none 0 0, .slice none 0 0, .slice none 0 0] ∧
    Blk wr B 4 (bs.map Value.bool).toArray ∧ Fr [] w wr

theorem bis_next {w wr : World} {N : Nat} {times : Int} {ans : List Int} {bp g B : Nat} {kn : Int → Bool} {bs : List Bool} {lo hi lo' hi' v x : Int} {u2 : Nat}
    (hstep : Hid (bisect N times ans = bisLoop ans (timesOf times).toNat (bs.count false) (fun i => i == v || kn i) (if x = 1 then v else lo) (if x = 2 then v else hi) u2))
    (hkn2 : Hid (Known (fun i => i == v || kn i) (bs.set v.toNat true))) (hcnt : Hid ((bs.set v.toNat true).count false + 1 = bs.count false))
    (hp : Play wr bp ans u2 (.slice none 0 0) (.slice none 0 0) false []) (hg : Blk wr g 34 #[.bool false, .slice none 0 0, .slice none 0 0, .slice none 0 0])
    (hb : Blk wr B 4 (bs.map Value.bool).toArray) (hf : Fr [] w wr) (hbp : bp < B) (hgB : g < B) (hlo : 0 ≤ lo) (hhi : hi < N) (hv1 : lo < v) (hv2 : v < hi) (hbs : bs.length = N) (hu : u2 ≤ ans.length) (hB : w.heap.size ≤ B)
    (hl : lo' = if x = 1 then v else lo) (hh : hi' = if x = 2 then v else hi) :
    BisInv w N times ans bp g B (bs.count false) (.int .i64 lo') (.int .i64 hi') (wr.setCell ⟨B, v.toNat, none⟩ (.bool true)) := by
  refine ⟨fun i => i == v || kn i, bs.set v.toNat true, lo', hi', u2, rfl, rfl, ?_, ?_, ?_, hu, by simp [hbs], hkn2, hcnt.out.symm, ?_, hp.far hb (by omega) _ _, hg.far (p := ⟨B, _, none⟩) (by show g ≠ B; omega) _, ?_, hf.setCell (p := ⟨B, _, none⟩) (.inr hB) _⟩
  · rw [hl]; split <;> omega
  · rw [hl, hh]; split <;> split <;> omega
  · rw [hh]; split <;> omega
  · rw [hl, hh]; exact hstep
  · have := hb.set_ v.toNat (.bool true)
    simpa [List.map_set] using this

end Go.Proofs.YtjpbmbonccenfaaDoor
