/- Texts of this seat, one behind the other: Of, IBetw, IBis, IBisect. -/
import Derived.Test.YtippadnbngcjlaaDoorg326
import Derived.Test.YtippadnbngcjlaaDoorg33
import Derived.Deep.LoopGhost
import Derived.Test.YtippadnbngcjlaaDoorg313
/- The verdicts of the program: next, of, judge, between. -/
namespace Go.Proofs.YtippadnbngcjlaaDoor
open Go.RowKit
set_option linter.unusedVariables false

def NextGot (w : World) (s : Nat) (ans : List Int) (used km : Nat) (a : Int) (e : Ending) (w' : World) : Prop :=
  e = .returned (.int .u8 (told a)) ∧ Fr [s] w w' ∧ Srch w' s ans (used + 1) km
def NextAsk (w : World) (ask : Value) (e : Ending) (w' : World) : Prop := e = .panicked [question ask] ∧ ∃ n, w' = w.drewN n

theorem Srch.fr0 {w w' : World} {s used km : Nat} {ans : List Int} (h : Srch w s ans used km) (hf : Fr [] w w') : Srch w' s ans used km := by
  obtain ⟨A, c, hb, hr, hn⟩ := h.ex
  exact ⟨A, c, hb.fr hf (by simp), hr.fr0 hf, hn⟩
theorem Srch.lt {w : World} {s used km : Nat} {ans : List Int} (h : Srch w s ans used km) : s < w.heap.size := by
  obtain ⟨A, c, hb, hr, hn⟩ := h.ex
  exact hb.lt

set_option maxHeartbeats 800000 in
theorem inext_got (s : Nat) (ans : List Int) (used km : Nat) (C : Value) (a : Int) (w : World) (h : Srch w s ans used km) (ha : ans[used]? = some a) :
    Calls Tryd.prog 81 #[.pointer (some ⟨s, 0, none⟩), C] w (NextGot w s ans used km a) := by
  obtain ⟨A, c, hb, hr, hna⟩ := h.ex
  have hu : used < ans.length := (List.getElem?_eq_some_iff.1 ha).1
  have hbd := hr.bound
  obtain ⟨b1, o1, x, rfl, hx, hc⟩ := hr.at_ hu
  obtain rfl : a = x := by have := ha.symm.trans hx.out; simpa using this
  clear ha
  have c0 := hb.cell 0 rfl
  have c1 := hb.cell 1 rfl
  have f1 := hb.frozen 1
  have hne := hna (by omega) _ rfl
  have hbe : ((used : Int) == ans.length) = false := by simp; omega
  go_enter Tryd.func81, Tryd.ntmps81
  go_wp2
  go_quiet (fail)
  go_wp2
  go_quiet ((go_at_call 83; first | exact quiet_of (plain_any _ _) | exact quiet_add (plain_any _ _)))
  go_wp2
  go_ret
  refine ⟨rfl, (by repeat (first | exact Fr.refl _ _ | assumption | apply Fr.drewN | apply Fr.drew | apply Fr.alloc | refine Fr.setCell ?_ (by simp) _)), ?_⟩
  exact ⟨_, c, ((hb.set_ 1 _).drewN _).drewN _, ((hr.setCell1 (Nat.ne_of_lt hne) _).drewN _).drewN _, hna⟩

theorem run_panic_iface {P : Program} (w : World) (t : TypeId) (v : Value) : (Instr.panic (.iface t v)).run P w = .halt (.panic (.iface t v)) w := rfl

set_option maxHeartbeats 800000 in
theorem inext_ask (s : Nat) (ans : List Int) (used km : Nat) (D : Option Addr) (n d : Nat) (w : World) (h : Srch w s ans used km) (hu : used = ans.length) :
    Calls Tryd.prog 81 #[.pointer (some ⟨s, 0, none⟩), .slice D n d] w (NextAsk w (.slice D n d)) := by
  obtain ⟨A, c, hb, hr, hna⟩ := h.ex
  have hbd := hr.bound
  have c0 := hb.cell 0 rfl
  have c1 := hb.cell 1 rfl
  have hbe : ((used : Int) == ans.length) = true := by simp; omega
  clear hu
  go_enter Tryd.func81, Tryd.ntmps81
  go_wp2
  go_quiet (fail)
  have hp := fun w => run_panic_iface (P := Tryd.prog) w 120 (.agg #[.slice D n d])
  go_wp2
  exact ⟨rfl, rfl, _, rfl⟩

theorem told_cases (a : Int) : told a = 1 ∨ told a = 2 ∨ told a = 3 := by
  unfold told
  split
  · omega
  · omega
theorem keyI : KeyT Tryd.prog 3 (.int .i64) (fun z : Int => Value.int .i64 z) := keyInt Tryd.underlying3
theorem zeroV (w : World) : (zeroValue 85).run Tryd.prog w = .ok (.int .u8 0) w := by kernel_rfl

def OfAsk (w : World) (s : Nat) (n : Int) (e : Ending) (w' : World) : Prop := ∃ A c, e = .panicked [question (.slice A [n].length c)] ∧ Rd w' (.int .i64) A c [n] ∧ Fr [s] w w' ∧ Nw w.heap.size A
end Go.Proofs.YtippadnbngcjlaaDoor

/- The verdicts of the program: judge, between. -/
namespace Go.Proofs.YtippadnbngcjlaaDoor
open Go.RowKit
set_option linter.unusedVariables false

/-- Is a version known? -/
def isKn (m : List (Int × Int)) (i : Int) : Bool := (m.lookup i).isSome
def Hit (kn : Int → Bool) (low high x : Int) : Prop := low < x ∧ x < high ∧ kn x = false
theorem betwAt_up {kn : Int → Bool} {low high m d : Int} (h : Hit kn low high (m + d)) : betwAt kn low high m d = some (m + d) := by unfold betwAt; unfold Hit at h; rw [if_pos h]
theorem betwAt_down {kn : Int → Bool} {low high m d : Int} (h0 : ¬ Hit kn low high (m + d)) (h : Hit kn low high (m - d)) : betwAt kn low high m d = some (m - d) := by unfold betwAt; unfold Hit at h h0; rw [if_neg h0, if_pos h]
theorem betwAt_none {kn : Int → Bool} {low high m d : Int} (h0 : ¬ Hit kn low high (m + d)) (h : ¬ Hit kn low high (m - d)) : betwAt kn low high m d = none := by unfold betwAt; unfold Hit at h h0; rw [if_neg h0, if_neg h]

/-- What one element of the pair comes to. -/
theorem hit_ways (kn : Int → Bool) (low high x : Int) : (kn x = true ∧ ¬ Hit kn low high x) ∨ (kn x = false ∧ ¬ low < x ∧ ¬ Hit kn low high x) ∨ (kn x = false ∧ low < x ∧ ¬ x < high ∧ ¬ Hit kn low high x) ∨ (kn x = false ∧ low < x ∧ x < high ∧ Hit kn low high x) := by
  unfold Hit
  cases h : kn x <;> by_cases h1 : low < x <;> by_cases h2 : x < high <;> simp [h1, h2]

end Go.Proofs.YtippadnbngcjlaaDoor

/- The program's Bisect: the search that it hands to run. -/
namespace Go.Proofs.YtippadnbngcjlaaDoor
open Go.RowKit
set_option linter.unusedVariables false

/-- The loop: a question, or low, high and how many answers were used. -/
def bisI (ans : List Int) (T : Nat) : Nat → (Int → Bool) → Int → Int → Nat → Option (Int ⊕ (Int × Int × Int × Nat))
  | 0, _, _, _, _ => none
  | t + 1, kn, lo, hi, used =>
    let v := betw kn lo hi
    if v < 0 then some (.inr (0, lo, hi, used)) else match ver ans T used 3 with
      | none => some (.inl v)
      | some (x, u) => bisI ans T t (fun i => i == v || kn i) (if x = 1 then v else lo) (if x = 2 then v else hi) u
def bisAll (N : Nat) (T : Nat) (ans : List Int) : Option (Int ⊕ (Int × Int × Int × Nat)) :=
  match ver ans T 0 3 with
  | none => some (.inl 0)
  | some (x, u) => if x ≠ 1 then some (.inr (7, 0, N - 1, u)) else match ver ans T u 3 with
    | none => some (.inl (N - 1))
    | some (y, u') => if y ≠ 2 then some (.inr (7, 0, N - 1, u')) else bisI ans T (N + 1) kn0 0 (N - 1) u'

/-- What it comes to. -/
def finB (ans : List Int) : Option (Int ⊕ (Int × Int × Int × Nat)) → Qst × Int
  | none => (qNone, 0)
  | some (.inl v) => (⟨false, [v], [], []⟩, 0)
  | some (.inr (e, lo, hi, u)) => endOf false [] e (decide (u < ans.length)) [lo, hi] []
theorem bisI_fin (ans : List Int) (T : Nat) : ∀ (t : Nat) (kn : Int → Bool) (lo hi : Int) (u : Nat), bisLoop ans T t kn lo hi u = finB ans (bisI ans T t kn lo hi u)
  | 0, _, _, _, _ => rfl
  | t + 1, kn, lo, hi, u => by
    simp only [bisLoop, bisI]
    by_cases hv : betw kn lo hi < 0
    · rw [if_pos hv, if_pos hv]; rfl
    · rw [if_neg hv, if_neg hv]
      rcases ver ans T u 3 with _ | ⟨x, u'⟩
      · rfl
      · exact bisI_fin ans T t _ _ _ _
theorem bisect_fin {n times : Int} {ans : List Int} {N : Nat} (hN : n = N) (h2 : 2 ≤ n) (h3 : n ≤ 256) (h4 : ans.length ≤ 4096) : bisect n times ans = finB ans (bisAll N (timesOf times).toNat ans) := by
  subst hN
  unfold bisect bisAll
  rw [if_neg (by omega), if_neg (by omega)]
  rcases ver ans (timesOf times).toNat 0 3 with _ | ⟨x, u⟩
  · rfl
  · by_cases hx : x = 1
    · simp only [hx, ne_eq, not_true_eq_false, if_false]
      rcases ver ans (timesOf times).toNat u 3 with _ | ⟨y, u'⟩
      · rfl
      · by_cases hy : y = 2
        · simp only [hy, not_true_eq_false, if_false]
          exact bisI_fin _ _ _ _ _ _ _
        · simp [hy, finB, endOf, qNone]
    · simp [hx, finB, endOf, qNone]

theorem betwFrom_congr {kn kn' : Int → Bool} {low high : Int} (h : ∀ i, low < i → i < high → kn i = kn' i) (m : Int) : ∀ (t : Nat) (d : Int), betwFrom kn low high m t d = betwFrom kn' low high m t d
  | 0, _ => rfl
  | t + 1, d => by
    have e : betwAt kn low high m d = betwAt kn' low high m d := by
      unfold betwAt
      have a1 : (low < m + d ∧ m + d < high ∧ kn (m + d) = false) ↔ (low < m + d ∧ m + d < high ∧ kn' (m + d) = false) :=
        ⟨fun ⟨x, y, z⟩ => ⟨x, y, by rw [← h _ x y]; exact z⟩, fun ⟨x, y, z⟩ => ⟨x, y, by rw [h _ x y]; exact z⟩⟩
      have a2 : (low < m - d ∧ m - d < high ∧ kn (m - d) = false) ↔ (low < m - d ∧ m - d < high ∧ kn' (m - d) = false) :=
        ⟨fun ⟨x, y, z⟩ => ⟨x, y, by rw [← h _ x y]; exact z⟩, fun ⟨x, y, z⟩ => ⟨x, y, by rw [h _ x y]; exact z⟩⟩
      simp only [a1, a2]
    unfold betwFrom
    rw [e]
    split
    · rfl
    · exact betwFrom_congr h m t (d + 1)
theorem betw_congr {kn kn' : Int → Bool} {low high : Int} (h : ∀ i, low < i → i < high → kn i = kn' i) : betw kn low high = betw kn' low high := betwFrom_congr h _ _ _

theorem Blk.ne_ {w : World} {a b : Nat} {t t' : TypeId} {cs cs' : Array Value} (h : Blk w a t cs) (h' : Blk w b t' cs') (hne : t ≠ t') : a ≠ b := by
  rintro rfl
  unfold Blk at h h'
  rw [h] at h'
  injection h' with h'
  injection h' with _ ht
  exact hne ht

/-- Two variables hold numbers. -/
def TwoBoxes (bl bh : Nat) (W : World) : Prop := ∃ lo hi : Int, Blk W bl 3 #[.int .i64 lo] ∧ Blk W bh 3 #[.int .i64 hi]
def BisDo (w1 : World) (s km bl bh : Nat) (ans : List Int) (o : Option (Int ⊕ (Int × Int × Int × Nat))) (e : Ending) (w' : World) : Prop :=
  match o with
  | none => False
  | some (.inl v) => DoAsk w1 s km [bl, bh] (TwoBoxes bl bh) [v] e w'
  | some (.inr (er, lo, hi, u)) => DoEnd w1 s km ans [bl, bh] (fun W => Blk W bl 3 #[.int .i64 lo] ∧ Blk W bh 3 #[.int .i64 hi]) er u e w'

theorem lookup1 {a x n : Int} (h : n ≠ a) : List.lookup n [(a, x)] = none := by simp [List.lookup, beq_eq_false_iff_ne.2 h]
theorem isKn_snoc (m : List (Int × Int)) (v x i : Int) : isKn (m ++ [(v, x)]) i = (isKn m i || (i == v)) := by
  unfold isKn
  rw [lookup_snoc]
  cases h : m.lookup i <;> by_cases h2 : i = v <;> simp [h2]

theorem sub3 {s km bl bh : Nat} : ∀ x ∈ [s, bl, bh], x ∈ s :: km :: [bl, bh] := by
  intro x hx
  simp at hx ⊢
  rcases hx with h | h | h
  · exact .inl h
  · exact .inr (.inr (.inl h))
  · exact .inr (.inr (.inr h))
theorem notU8 {z : Int} (i : Nat) (u : Value) (h : (#[Value.int .i64 z] : Array Value)[i]? = some u) (x : Int) : u ≠ .int .u8 x := by
  match i, h with
  | 0, h => simp at h; subst h; simp
theorem Srch.far {w : World} {s used km b : Nat} {ans : List Int} {t : TypeId} {z : Int} (h : Srch w s ans used km) (hb : Blk w b t #[.int .i64 z]) (hne : s ≠ b) (u : Value) : Srch (w.setCell ⟨b, 0, none⟩ u) s ans used km := by
  obtain ⟨A, c, hs, hr, hn⟩ := h.ex
  exact ⟨A, c, hs.far (p := ⟨b, 0, none⟩) hne u, hr.setCell (p := ⟨b, 0, none⟩) (hr.apart hb notU8) u, hn⟩
end Go.Proofs.YtippadnbngcjlaaDoor

/- The program's Bisect. -/
namespace Go.Proofs.YtippadnbngcjlaaDoor
open Go.RowKit
set_option linter.unusedVariables false

theorem bisI_some (ans : List Int) (T : Nat) : ∀ (t : Nat) (bs : List Bool) (kn : Int → Bool) (lo hi : Int) (u : Nat), Known kn bs → t = bs.count false + 1 → 0 ≤ lo → hi ≤ bs.length → bisI ans T t kn lo hi u ≠ none
  | 0, bs, kn, lo, hi, u, _, h, _, _ => by omega
  | t + 1, bs, kn, lo, hi, u, hk, ht, hlo, hhi => by
    simp only [bisI]
    by_cases hv : betw kn lo hi < 0
    · rw [if_pos hv]; simp
    · rw [if_neg hv]
      rcases ver ans T u 3 with _ | ⟨x, u'⟩
      · simp
      · have hb := betw_range (kn := kn) (low := lo) (high := hi) (by omega)
        have hbv := hk (betw kn lo hi).toNat (by omega)
        rw [show (((betw kn lo hi).toNat : Nat) : Int) = betw kn lo hi by omega, hb.2.2] at hbv
        have hc := count_set hbv
        refine bisI_some ans T t (bs.set (betw kn lo hi).toNat true) _ _ _ _ (known_set hk (by omega)) (by omega) ?_ ?_
        · split <;> omega
        · simp only [List.length_set]; split <;> omega
theorem bisAll_some (N T : Nat) (ans : List Int) : bisAll N T ans ≠ none := by
  unfold bisAll
  rcases ver ans T 0 3 with _ | ⟨x, u⟩
  · simp
  · by_cases hx : x = 1
    · simp only [hx, ne_eq, not_true_eq_false, if_false]
      rcases ver ans T u 3 with _ | ⟨y, u'⟩
      · simp
      · by_cases hy : y = 2
        · simp only [hy, not_true_eq_false, if_false]
          exact bisI_some ans T _ (List.replicate N false) kn0 _ _ _ (fun i hi => by simp at hi; simp [kn0, hi]) (by simp) (by omega) (by simp; omega)
        · simp [hy]
    · simp [hx]

theorem quest_end (er : Int) (u l : Nat) (kept : List Int) : endOf false [] er (decide (u < l)) kept [] = questOf [] kept (decide (er = 0 ∧ l ≤ u)) (if er ≠ 0 then er else if u < l then 8 else 0) := by
  unfold endOf questOf
  by_cases he : er = 0
  · by_cases hu : u < l
    · have h1 : ¬ l ≤ u := by omega
      simp [he, hu]
    · have h1 : l ≤ u := by omega
      simp [he, hu, h1]
  · simp [he]

end Go.Proofs.YtippadnbngcjlaaDoor
