/- The reference's Bisect. -/
import Derived.Test.YtjpbmbonccenfaaVer
import Derived.Test.YtjpbmbonccenfaaEnd
import Derived.Test.YtjpbmbonccenfaaBetw
import Derived.Deep.LoopGhost
namespace Go.Proofs.Ytjpbmbonccenfaa
open Go.RowKit
set_option linter.unusedVariables false

/-- The loop of a bisection: so many rounds at most; what is known, low, high, how many answers were used. -/
def bisLoop (ans : List Int) (times : Nat) : Nat → (Int → Bool) → Int → Int → Nat → Qst × Int
  | 0, _, _, _, _ => (qNone, 0)
  | t + 1, kn, low, high, used =>
    let v := betw kn low high
    if v < 0 then endOf false [] 0 (decide (used < ans.length)) [low, high] []
    else match ver ans times used 3 with
      | none => (⟨false, [v], [], []⟩, 0)
      | some (x, u) => bisLoop ans times t (fun i => i == v || kn i) (if x = 1 then v else low) (if x = 2 then v else high) u
def kn0 : Int → Bool := fun _ => false
/-- Bisect. -/
def bisect (n times : Int) (ans : List Int) : Qst × Int :=
  if n < 2 then (qNone, 1) else if 256 < n ∨ 4096 < ans.length then (qNone, 3)
  else match ver ans (timesOf times).toNat 0 3 with
    | none => (⟨false, [0], [], []⟩, 0)
    | some (x, u) => if x ≠ 1 then (qNone, 7) else match ver ans (timesOf times).toNat u 3 with
      | none => (⟨false, [n - 1], [], []⟩, 0)
      | some (y, u') => if y ≠ 2 then (qNone, 7) else bisLoop ans (timesOf times).toNat (n.toNat + 1) kn0 0 (n - 1) u'

theorem ver_used {ans : List Int} : ∀ {t u : Nat} {o x : Int} {u' : Nat}, ver ans t u o = some (x, u') → u ≤ ans.length → u ≤ u' ∧ u' ≤ ans.length
  | 0, u, o, x, u', h, hu => by simp [ver] at h; omega
  | t + 1, u, o, x, u', h, hu => by
    unfold ver at h
    split at h
    · cases h
    · rename_i a ha
      have hlt : u < ans.length := (List.getElem?_eq_some_iff.1 ha).1
      split at h
      · simp at h; omega
      · have := ver_used h (by omega); omega

theorem betw_range {kn : Int → Bool} {low high : Int} (h : 0 ≤ betw kn low high) : low < betw kn low high ∧ betw kn low high < high ∧ kn (betw kn low high) = false := by
  have key : ∀ (t : Nat) (m d : Int), 0 ≤ betwFrom kn low high m t d → low < betwFrom kn low high m t d ∧ betwFrom kn low high m t d < high ∧ kn (betwFrom kn low high m t d) = false := by
    intro t
    induction t with
    | zero => intro m d h; simp [betwFrom] at h
    | succ t ih =>
      intro m d h
      unfold betwFrom at h ⊢
      split
      · rename_i x hx
        unfold betwAt at hx
        split at hx
        · rename_i hc
          injection hx with hx
          subst hx
          exact hc
        · split at hx
          · rename_i hc
            injection hx with hx
            subst hx
            exact hc
          · cases hx
      · rename_i hx
        simp only [hx] at h
        exact ih m (d + 1) h
  exact key _ _ _ h

theorem elemBools : Elem Try.prog 58 4 (.bool false) 1 1 := ⟨Try.underlying58, by kernel_rfl, rfl, by omega, by omega⟩

set_option maxHeartbeats 1600000 in
theorem refBisect_early (n times : Int) (A : Option Addr) (c : Nat) (ans : List Int) (w : World) (ha : Rd w (.int .u8) A c ans) (h : n < 2) :
    Calls Try.prog 11 #[.int .i64 n, .int .i64 times, .slice A ans.length c] w (RetQst w (bisect n times ans)) := by
  have hn : ∀ W : World, Rd W (.int .i64) none 0 ([] : List Int) := fun W => Rd.nil_ W _
  go_enter Try.func11, Try.ntmps11
  go_wp2
  refine bodyPost_ret (v := .tuple #[.agg #[.bool false, .slice none 0 0, .slice none 0 0, .slice none 0 0], .int .i64 1]) (by simp [results, Try.results11, go_sem]) rfl ?_
  rw [show bisect n times ans = (qNone, 1) by simp [bisect, h]]
  exact ⟨_, rfl, (Fr.refl _ _).alloc _, none, 0, none, 0, none, 0, rfl, hn _, hn _, hn _⟩

theorem Play.far {w : World} {bp used g : Nat} {ans want : List Int} {S T : Value} {stop : Bool} {bs : List Bool} {t : TypeId} (h : Play w bp ans used S T stop want) (hb : Blk w g t (bs.map Value.bool).toArray) (hne : bp ≠ g) (i : Nat) (u : Value) :
    Play (w.setCell ⟨g, i, none⟩ u) bp ans used S T stop want := by
  obtain ⟨A, c, B, d, hh, hr, hna, hr2, hnb⟩ := h.ex
  have hx : ∀ (k : IntKind) (j : Nat) (v : Value), (bs.map Value.bool).toArray[j]? = some v → ∀ x, v ≠ .int k x := by
    intro k j v hj x
    rw [List.getElem?_toArray, List.getElem?_map] at hj
    cases hb : bs[j]? <;> simp only [hb, Option.map_none, Option.map_some] at hj
    · cases hj
    · injection hj with hj
      subst hj
      simp
  exact ⟨A, c, B, d, hh.far (p := ⟨g, i, none⟩) hne u, hr.setCell (p := ⟨g, i, none⟩) (hr.apart hb (hx _)) u, hna, hr2.setCell (p := ⟨g, i, none⟩) (hr2.apart hb (hx _)) u, hnb⟩

theorem count_set {bs : List Bool} {i : Nat} (h : bs[i]? = some false) : (bs.set i true).count false + 1 = bs.count false := by
  induction bs generalizing i with
  | nil => simp at h
  | cons b bs ih =>
    cases i with
    | zero => simp at h; subst h; simp
    | succ i =>
      simp at h
      have := ih h
      simp [List.count_cons] at this ⊢
      omega
theorem known_set {kn : Int → Bool} {bs : List Bool} {v : Int} (h : Known kn bs) (h0 : 0 ≤ v) : Known (fun i => i == v || kn i) (bs.set v.toNat true) := by
  intro i hi
  simp at hi
  by_cases he : v.toNat = i
  · subst he
    simp [hi]; omega
  · rw [List.getElem?_set_ne he, h i hi]
    have : ((i : Int) == v) = false := by simp; omega
    simp [this]

/-- Between two rounds. -/
def BisInv (w : World) (N : Nat) (times : Int) (ans : List Int) (bp g B : Nat) (t : Nat) (low high : Value) (wr : World) : Prop :=
  ∃ (kn : Int → Bool) (bs : List Bool) (lo hi : Int) (u : Nat), low = .int .i64 lo ∧ high = .int .i64 hi ∧ 0 ≤ lo ∧ lo < hi ∧ hi < N ∧ u ≤ ans.length ∧ bs.length = N ∧ Hid (Known kn bs) ∧ t = bs.count false + 1 ∧
    Hid (bisect N times ans = bisLoop ans (timesOf times).toNat t kn lo hi u) ∧ Play wr bp ans u (.slice none 0 0) (.slice none 0 0) false [] ∧ Blk wr g 26 #[.bool false, .slice none 0 0, .slice none 0 0, .slice none 0 0] ∧
    Blk wr B 4 (bs.map Value.bool).toArray ∧ Fr [] w wr

theorem bis_next {w wr : World} {N : Nat} {times : Int} {ans : List Int} {bp g B : Nat} {kn : Int → Bool} {bs : List Bool} {lo hi lo' hi' v x : Int} {u2 : Nat}
    (hstep : Hid (bisect N times ans = bisLoop ans (timesOf times).toNat (bs.count false) (fun i => i == v || kn i) (if x = 1 then v else lo) (if x = 2 then v else hi) u2))
    (hkn2 : Hid (Known (fun i => i == v || kn i) (bs.set v.toNat true))) (hcnt : Hid ((bs.set v.toNat true).count false + 1 = bs.count false))
    (hp : Play wr bp ans u2 (.slice none 0 0) (.slice none 0 0) false []) (hg : Blk wr g 26 #[.bool false, .slice none 0 0, .slice none 0 0, .slice none 0 0])
    (hb : Blk wr B 4 (bs.map Value.bool).toArray) (hf : Fr [] w wr) (hbp : bp < B) (hgB : g < B) (hlo : 0 ≤ lo) (hhi : hi < N) (hv1 : lo < v) (hv2 : v < hi) (hbs : bs.length = N) (hu : u2 ≤ ans.length) (hB : w.heap.size ≤ B)
    (hl : lo' = if x = 1 then v else lo) (hh : hi' = if x = 2 then v else hi) :
    BisInv w N times ans bp g B (bs.count false) (.int .i64 lo') (.int .i64 hi') (wr.setCell ⟨B, v.toNat, none⟩ (.bool true)) := by
  refine ⟨fun i => i == v || kn i, bs.set v.toNat true, lo', hi', u2, rfl, rfl, ?_, ?_, ?_, hu, by simp [hbs], hkn2, hcnt.out.symm, ?_, hp.far hb (by omega) _ _, hg.far (p := ⟨B, _, none⟩) (by show g ≠ B; omega) _, ?_, hf.setCell (p := ⟨B, _, none⟩) (.inr hB) _⟩
  · rw [hl]; split <;> omega
  · rw [hl, hh]; split <;> split <;> omega
  · rw [hh]; split <;> omega
  · rw [hl, hh]; exact hstep
  · have := hb.set_ v.toNat (.bool true)
    simpa [List.map_set] using this

set_option maxRecDepth 100000 in
set_option maxHeartbeats 1000000 in
theorem refBisect_main (n times : Int) (A : Option Addr) (c : Nat) (ans : List Int) (w : World) (ha : Rd w (.int .u8) A c ans) (h2 : 2 ≤ n) (h3 : n ≤ 256) (h4 : ans.length ≤ 4096) :
    Calls Try.prog 11 #[.int .i64 n, .int .i64 times, .slice A ans.length c] w (RetQst w (bisect n times ans)) := by
  obtain ⟨N, rfl⟩ := Int.eq_ofNat_of_zero_le (show 0 ≤ n by omega)
  have hn : ∀ W : World, Rd W (.int .i64) none 0 ([] : List Int) := fun W => Rd.nil_ W _
  have hd : decide (ans.length ≤ 4096) = true := by simpa using h4
  go_enter Try.func11, Try.ntmps11
  go_wp2_with (go_at_call 44; refine (begin_any A c ans _ (ha.alloc _)).mono ?_; rintro e w1 ⟨rfl, hf1, hp1⟩)
  rw [World.size_alloc] at hp1
  have hB1 : Blk w1 w.heap.size 26 #[.bool false, .slice none 0 0, .slice none 0 0, .slice none 0 0] := (Blk.new w _ _ _ rfl).fr hf1 (by simp)
  have hf01 : Fr [] w w1 := ((Fr.refl _ _).alloc _).trans hf1
  rcases hv : ver ans (timesOf times).toNat 0 3 with _ | ⟨x, u⟩
  · have HV := Lib.hid hv
    clear hv
    refine (version_none _ ans 0 _ _ 0 times _ hp1 (by omega) (by omega) HV.out).mono ?_
    rintro e w2 ⟨u2, rfl, hf2, hp2⟩
    go_wp2_with fail
    refine (end_any _ ans u2 _ _ true [0] 7 none none 0 0 [] [] _ hp2 (hn _) (hn _)).mono ?_
    rintro e w3 ⟨v, rfl, hf3, A1, a1, B1, b1, C1, c1, rfl, hq1, hq2, hq3⟩
    have hB3 := (hB1.fr hf2 (by simp)).fr hf3 (by simp)
    have qc0 := hB3.cell 0 rfl
    have qc1 := hB3.cell 1 rfl
    have qc2 := hB3.cell 2 rfl
    have qc3 := hB3.cell 3 rfl
    have qd0 := hB3.frozen 0
    have qd1 := hB3.frozen 1
    have qd2 := hB3.frozen 2
    have qd3 := hB3.frozen 3
    go_wp2
    refine bodyPost_ret (results_qst rfl _ _ w.heap.size rfl (hB3.four _ _ _ _)) rfl ?_
    rw [show bisect N times ans = endOf true [0] 7 (decide (u2 < ans.length)) [] [] by
      have := HV.out
      simp [bisect, endOf, this, show ¬ (N : Int) < 2 by omega, show ¬ (256 < (N : Int) ∨ 4096 < ans.length) by omega]]
    exact qst_ret (Nat.le_refl _) ((hf01.trans2 hf2 (by simp)).trans0 hf3) hB3 hq1 hq2 hq3
  · have HV := Lib.hid hv
    have hu := ver_used hv (by omega)
    clear hv
    by_cases hx : x = 1
    · subst hx
      refine (version_got _ ans 0 _ _ 0 times _ hp1 (by omega) (by omega) HV.out).mono ?_
      rintro e w2 ⟨rfl, hf2, hp2⟩
      go_wp2_with fail
      have hB2 := hB1.fr hf2 (by simp)
      have hf02 := hf01.trans2 hf2 (by simp)
      rcases hv2 : ver ans (timesOf times).toNat u 3 with _ | ⟨y, u'⟩
      · have HV2 := Lib.hid hv2
        clear hv2
        refine (version_none _ ans u _ _ (N - 1) times _ hp2 (by omega) (by omega) HV2.out).mono ?_
        rintro e w3 ⟨u3, rfl, hf3, hp3⟩
        go_wp2_with fail
        refine (end_any _ ans u3 _ _ true [(N : Int) - 1] 7 none none 0 0 [] [] _ hp3 (hn _) (hn _)).mono ?_
        rintro e w4 ⟨v, rfl, hf4, A1, a1, B1, b1, C1, c1, rfl, hq1, hq2, hq3⟩
        have hB4 := (hB2.fr hf3 (by simp)).fr hf4 (by simp)
        have qc0 := hB4.cell 0 rfl
        have qc1 := hB4.cell 1 rfl
        have qc2 := hB4.cell 2 rfl
        have qc3 := hB4.cell 3 rfl
        have qd0 := hB4.frozen 0
        have qd1 := hB4.frozen 1
        have qd2 := hB4.frozen 2
        have qd3 := hB4.frozen 3
        go_wp2
        refine bodyPost_ret (results_qst rfl _ _ w.heap.size rfl (hB4.four _ _ _ _)) rfl ?_
        rw [show bisect N times ans = endOf true [(N : Int) - 1] 7 (decide (u3 < ans.length)) [] [] by
          have := HV.out
          have h5 := HV2.out
          simp [bisect, endOf, this, h5, show ¬ (N : Int) < 2 by omega, show ¬ (256 < (N : Int) ∨ 4096 < ans.length) by omega]]
        exact qst_ret (Nat.le_refl _) ((hf02.trans2 hf3 (by simp)).trans0 hf4) hB4 hq1 hq2 hq3
      · have HV2 := Lib.hid hv2
        have hu2 := ver_used hv2 (by omega)
        clear hv2
        by_cases hy : y = 2
        · subst hy
          refine (version_got _ ans u _ _ (N - 1) times _ hp2 (by omega) (by omega) HV2.out).mono ?_
          rintro e w3 ⟨rfl, hf3, hp3⟩
          have hB3 := hB2.fr hf3 (by simp)
          have hf03 := hf02.trans2 hf3 (by simp)
          have hp3' := hp3.lt
          go_wp2_with (at_make; refine wpList_makeN rfl _ _ _ rfl elemBools rfl N rfl rfl (by omega) ?_; intro w4 hown4 hg4)
          have hf4 : Fr [] w3 w4 := (Fr.refl _ _).grown hg4 (by simp)
          have hK4 := own_blk hown4 (by omega)
          have hs4 := hg4.size
          have hI : BisInv w N times ans (w.heap.size + 1) w.heap.size w3.heap.size (N + 1) (.int .i64 0) (.int .i64 (N - 1)) w4 := by
            refine ⟨kn0, List.replicate N false, 0, N - 1, u', rfl, rfl, by omega, by omega, by omega, by omega, by simp, fun i hi => ?_, by simp, ?_, hp3.fr hf4, hB3.fr hf4 (by simp), ?_, hf03.trans hf4⟩
            · simp at hi; simp [kn0, hi]
            · have h5 := HV.out
              have h6 := HV2.out
              show bisect N times ans = _
              simp [bisect, h5, h6, show ¬ (N : Int) < 2 by omega, show ¬ (256 < (N : Int) ∨ 4096 < ans.length) by omega]
            · simpa using hK4
          clear hown4 hg4 hK4 hp3 hB3 hf03 hf4 hp2 hB2 hf02 hB1 hf01 hp1 hf3 hf2 hf1
          have HN := Lib.hid hn
          clear hn
          generalize hBB : w3.heap.size = B0
          rw [hBB] at hI hs4 hp3'
          clear hBB
          go_wp2_with fail
          go_loopg [10, 11] (N + 1) (BisInv w N times ans (w.heap.size + 1) w.heap.size B0)
          case atStart => exact hI
          case round =>
            clear hI hs4
            obtain ⟨kn, bs, lo, hi, u, rfl, rfl, hlo, hlh, hhi, hu, hbs, hkn, ht, hbi, hpl, hbg, hbb, hf⟩ := hrel
            obtain rfl := ht
            have hrd := Rd.of_blk hbb (by unfold maxLen; omega)
            rw [hbs] at hrd
            go_wp2_with fail
            have hcb := refBetween_any kn bs lo hi _ _ _ hrd hkn.out hlo (by omega) (by omega) (by omega)
            rw [hbs] at hcb
            (with_reducible refine hcb.mono ?_)
            clear hcb
            rintro e w5 ⟨rfl, nq, rfl⟩
            have hbw : Hid (0 ≤ betw kn lo hi → _) := betw_range (kn := kn) (low := lo) (high := hi)
            generalize hvv : betw kn lo hi = v at hbw
            have HVV := Lib.hid hvv
            clear hvv
            by_cases hv0 : v < 0
            · go_wp2_with fail
              refine (end_any _ ans u _ _ false [] 0 _ none 2 0 [lo, hi] [] _ (hpl.fr (((Fr.refl _ _).alloc _).drewN _)) ((Rd.two _ _ _ _ _).drewN _) (Rd.nil_ _ _)).mono ?_
              rintro e w6 ⟨vq, rfl, hf6, A1, a1, B1, b1, C1, c1, rfl, hq1, hq2, hq3⟩
              have hf06 := ((hf.alloc (.cells #[.int .i64 lo, .int .i64 hi] 3)).drewN nq).trans hf6
              have hB6 := hbg.fr (((((Fr.refl _ _).alloc (.cells #[.int .i64 lo, .int .i64 hi] 3)).drewN nq)).trans hf6) (by simp)
              have qc0 := hB6.cell 0 rfl
              have qc1 := hB6.cell 1 rfl
              have qc2 := hB6.cell 2 rfl
              have qc3 := hB6.cell 3 rfl
              have qd0 := hB6.frozen 0
              have qd1 := hB6.frozen 1
              have qd2 := hB6.frozen 2
              have qd3 := hB6.frozen 3
              go_wp2
              refine bodyPost_ret (results_qst rfl _ _ w.heap.size rfl (hB6.four _ _ _ _)) rfl ?_
              rw [show bisect N times ans = endOf false [] 0 (decide (u < ans.length)) [lo, hi] [] by
                rw [hbi.out]; simp [bisLoop, HVV.out, hv0]]
              exact qst_ret (Nat.le_refl _) hf06 hB6 hq1 hq2 hq3
            · obtain ⟨hv1, hv2, hv3⟩ := hbw.out (by omega)
              have HV3 := Lib.hid hv3
              clear hv3 hbw
              rcases hver : ver ans (timesOf times).toNat u 3 with _ | ⟨x, u2⟩
              · have HVE := Lib.hid hver
                clear hver
                go_wp2_with fail
                refine (version_none _ ans u _ _ v times _ (hpl.fr ((Fr.refl _ _).drewN _)) (by omega) (by omega) HVE.out).mono ?_
                rintro e w6 ⟨u3, rfl, hf6, hp6⟩
                obtain ⟨_, _, _, _, hpb, _⟩ := hp6.ex
                have c4 := hpb.cell 4 rfl
                go_wp2_with fail
                refine (end_any _ ans u3 _ _ true [v] 0 none none 0 0 [] [] _ hp6 (Rd.nil_ _ _) (Rd.nil_ _ _)).mono ?_
                rintro e w7 ⟨vq, rfl, hf7, A1, a1, B1, b1, C1, c1, rfl, hq1, hq2, hq3⟩
                have hf07 := ((hf.drewN nq).trans2 hf6 (by simp)).trans hf7
                have hB7 := ((hbg.drewN nq).fr hf6 (by simp)).fr hf7 (by simp)
                have qc0 := hB7.cell 0 rfl
                have qc1 := hB7.cell 1 rfl
                have qc2 := hB7.cell 2 rfl
                have qc3 := hB7.cell 3 rfl
                have qd0 := hB7.frozen 0
                have qd1 := hB7.frozen 1
                have qd2 := hB7.frozen 2
                have qd3 := hB7.frozen 3
                go_wp2
                refine bodyPost_ret (results_qst rfl _ _ w.heap.size rfl (hB7.four _ _ _ _)) rfl ?_
                rw [show bisect N times ans = endOf true [v] 0 (decide (u3 < ans.length)) [] [] by
                  rw [hbi.out]; simp only [bisLoop, HVV.out, if_neg (show ¬ v < 0 by omega), HVE.out]; simp [endOf]]
                exact qst_ret (Nat.le_refl _) hf07 hB7 hq1 hq2 hq3
              · have HVE := Lib.hid hver
                have hu2 := ver_used hver hu
                clear hver
                have hvl : v.toNat < bs.length := by omega
                have hbv := hkn.out v.toNat hvl
                rw [show ((v.toNat : Nat) : Int) = v by omega, HV3.out] at hbv
                have HBV := Lib.hid hbv
                clear hbv
                have hstep : Hid (bisect N times ans = bisLoop ans (timesOf times).toNat (bs.count false) (fun i => i == v || kn i) (if x = 1 then v else lo) (if x = 2 then v else hi) u2) := by
                  show bisect N times ans = _
                  rw [hbi.out]; simp only [bisLoop, HVV.out, if_neg (show ¬ v < 0 by omega), HVE.out]
                have hcnt : Hid ((bs.set v.toNat true).count false + 1 = bs.count false) := count_set HBV.out
                have hkn2 : Hid (Known (fun i => i == v || kn i) (bs.set v.toNat true)) := known_set hkn.out (by omega)
                go_wp2_with fail
                refine (version_got _ ans u _ _ v times _ (hpl.fr ((Fr.refl _ _).drewN _)) (by omega) (by omega) HVE.out).mono ?_
                rintro e w6 ⟨rfl, hf6, hp6⟩
                obtain ⟨_, _, _, _, hpb, _⟩ := hp6.ex
                have c4 := hpb.cell 4 rfl
                clear hpb
                have hf06 := (hf.drewN nq).trans2 hf6 (by simp)
                have hbg6 := (hbg.drewN nq).fr hf6 (by simp)
                have hbb6 := (hbb.drewN nq).fr hf6 (by simp; omega)
                have k4 := hbb6.cell v.toNat (u := .bool false) (by simp [HBV.out])
                have k5 := hbb6.frozen v.toNat
                have hvN : v < N := by omega
                by_cases hx1 : x = 1
                · have hb1 : (x == 1) = true := by simpa using hx1
                  have HX1 := Lib.hid hx1
                  clear hx1
                  go_wp2
                  go_roundg (bs.count false)
                  case measure => omega
                  case rel => exact bis_next hstep hkn2 hcnt hp6 hbg6 hbb6 hf06 (by omega) (by omega) hlo hhi hv1 hv2 hbs hu2.2 (by omega) (by simp [HX1.out]) (by have := HX1.out; rw [if_neg (by omega)])
                · have hb1 : (x == 1) = false := by simpa using hx1
                  have HX1 := Lib.hid hx1
                  clear hx1
                  by_cases hx2 : x = 2
                  · have hb2 : (x == 2) = true := by simpa using hx2
                    have HX2 := Lib.hid hx2
                    clear hx2
                    go_wp2
                    go_roundg (bs.count false)
                    case measure => omega
                    case rel => exact bis_next hstep hkn2 hcnt hp6 hbg6 hbb6 hf06 (by omega) (by omega) hlo hhi hv1 hv2 hbs hu2.2 (by omega) (by have := HX2.out; rw [if_neg (by omega)]) (by simp [HX2.out])
                  · have hb2 : (x == 2) = false := by simpa using hx2
                    have HX2 := Lib.hid hx2
                    clear hx2
                    go_wp2
                    go_roundg (bs.count false)
                    case measure => omega
                    case rel => exact bis_next hstep hkn2 hcnt hp6 hbg6 hbb6 hf06 (by omega) (by omega) hlo hhi hv1 hv2 hbs hu2.2 (by omega) (by simp [HX1.out]) (by simp [HX2.out])
        · have hyb : (y != 2) = true := by simpa using hy
          have HY := Lib.hid hy
          clear hy
          refine (version_got _ ans u _ _ (N - 1) times _ hp2 (by omega) (by omega) HV2.out).mono ?_
          rintro e w3 ⟨rfl, hf3, hp3⟩
          go_wp2_with fail
          refine (end_any _ ans u' _ _ false [] 7 none none 0 0 [] [] _ hp3 (hn _) (hn _)).mono ?_
          rintro e w4 ⟨v, rfl, hf4, A1, a1, B1, b1, C1, c1, rfl, hq1, hq2, hq3⟩
          have hB4 := (hB2.fr hf3 (by simp)).fr hf4 (by simp)
          have qc0 := hB4.cell 0 rfl
          have qc1 := hB4.cell 1 rfl
          have qc2 := hB4.cell 2 rfl
          have qc3 := hB4.cell 3 rfl
          have qd0 := hB4.frozen 0
          have qd1 := hB4.frozen 1
          have qd2 := hB4.frozen 2
          have qd3 := hB4.frozen 3
          go_wp2
          refine bodyPost_ret (results_qst rfl _ _ w.heap.size rfl (hB4.four _ _ _ _)) rfl ?_
          rw [show bisect N times ans = endOf false [] 7 (decide (u' < ans.length)) [] [] by
            have := HV.out
            have h5 := HV2.out
            have h6 := HY.out
            simp [bisect, endOf, this, h5, h6, show ¬ (N : Int) < 2 by omega, show ¬ (256 < (N : Int) ∨ 4096 < ans.length) by omega]]
          exact qst_ret (Nat.le_refl _) ((hf02.trans2 hf3 (by simp)).trans0 hf4) hB4 hq1 hq2 hq3
    · have hxb : (x != 1) = true := by simpa using hx
      have HX := Lib.hid hx
      clear hx
      refine (version_got _ ans 0 _ _ 0 times _ hp1 (by omega) (by omega) HV.out).mono ?_
      rintro e w2 ⟨rfl, hf2, hp2⟩
      go_wp2_with fail
      refine (end_any _ ans u _ _ false [] 7 none none 0 0 [] [] _ hp2 (hn _) (hn _)).mono ?_
      rintro e w3 ⟨v, rfl, hf3, A1, a1, B1, b1, C1, c1, rfl, hq1, hq2, hq3⟩
      have hB3 := (hB1.fr hf2 (by simp)).fr hf3 (by simp)
      have qc0 := hB3.cell 0 rfl
      have qc1 := hB3.cell 1 rfl
      have qc2 := hB3.cell 2 rfl
      have qc3 := hB3.cell 3 rfl
      have qd0 := hB3.frozen 0
      have qd1 := hB3.frozen 1
      have qd2 := hB3.frozen 2
      have qd3 := hB3.frozen 3
      go_wp2
      refine bodyPost_ret (results_qst rfl _ _ w.heap.size rfl (hB3.four _ _ _ _)) rfl ?_
      rw [show bisect N times ans = endOf false [] 7 (decide (u < ans.length)) [] [] by
        have := HV.out
        have h6 := HX.out
        simp [bisect, endOf, this, h6, show ¬ (N : Int) < 2 by omega, show ¬ (256 < (N : Int) ∨ 4096 < ans.length) by omega]]
      exact qst_ret (Nat.le_refl _) ((hf01.trans2 hf2 (by simp)).trans0 hf3) hB3 hq1 hq2 hq3

set_option maxHeartbeats 1000000 in
theorem refBisect_limit (n times : Int) (A : Option Addr) (c : Nat) (ans : List Int) (w : World) (ha : Rd w (.int .u8) A c ans) (h2 : 2 ≤ n) (h3 : 256 < n ∨ 4096 < ans.length) :
    Calls Try.prog 11 #[.int .i64 n, .int .i64 times, .slice A ans.length c] w (RetQst w (bisect n times ans)) := by
  have hn : ∀ W : World, Rd W (.int .i64) none 0 ([] : List Int) := fun W => Rd.nil_ W _
  have hbi := Lib.hid (show bisect n times ans = (qNone, 3) by simp [bisect, show ¬ n < 2 by omega, h3])
  by_cases h4 : 256 < n
  · clear h3
    go_enter Try.func11, Try.ntmps11
    go_wp2_with (go_at_call 44; refine (begin_any A c ans _ (ha.alloc _)).mono ?_; rintro e w1 ⟨rfl, hf1, hp1⟩; have hB1 : Blk w1 w.heap.size 26 #[.bool false, .slice none 0 0, .slice none 0 0, .slice none 0 0] := (Blk.new w _ _ _ rfl).fr hf1 (by simp); have qc0 := hB1.cell 0 rfl; have qc1 := hB1.cell 1 rfl; have qc2 := hB1.cell 2 rfl; have qc3 := hB1.cell 3 rfl; have qd0 := hB1.frozen 0; have qd1 := hB1.frozen 1; have qd2 := hB1.frozen 2; have qd3 := hB1.frozen 3)
    refine bodyPost_ret (results_qst rfl _ _ w.heap.size rfl (hB1.four _ _ _ _)) rfl ?_
    rw [hbi.out]
    exact qst_ret (r := (qNone, 3)) (Nat.le_refl _) (((Fr.refl _ _).alloc _).trans hf1) hB1 (hn _) (hn _) (hn _)
  · have hd : decide (ans.length ≤ 4096) = false := by simp; omega
    have h4' : n ≤ 256 := by omega
    clear h3
    go_enter Try.func11, Try.ntmps11
    go_wp2_with (go_at_call 44; refine (begin_any A c ans _ (ha.alloc _)).mono ?_; rintro e w1 ⟨rfl, hf1, hp1⟩; have hB1 : Blk w1 w.heap.size 26 #[.bool false, .slice none 0 0, .slice none 0 0, .slice none 0 0] := (Blk.new w _ _ _ rfl).fr hf1 (by simp); have qc0 := hB1.cell 0 rfl; have qc1 := hB1.cell 1 rfl; have qc2 := hB1.cell 2 rfl; have qc3 := hB1.cell 3 rfl; have qd0 := hB1.frozen 0; have qd1 := hB1.frozen 1; have qd2 := hB1.frozen 2; have qd3 := hB1.frozen 3)
    refine bodyPost_ret (results_qst rfl _ _ w.heap.size rfl (hB1.four _ _ _ _)) rfl ?_
    rw [hbi.out]
    exact qst_ret (r := (qNone, 3)) (Nat.le_refl _) (((Fr.refl _ _).alloc _).trans hf1) hB1 (hn _) (hn _) (hn _)

theorem refBisect_any (n times : Int) (A : Option Addr) (c : Nat) (ans : List Int) (w : World) (ha : Rd w (.int .u8) A c ans) :
    Calls Try.prog 11 #[.int .i64 n, .int .i64 times, .slice A ans.length c] w (RetQst w (bisect n times ans)) := by
  by_cases h : n < 2
  · exact refBisect_early n times A c ans w ha h
  · by_cases h3 : 256 < n ∨ 4096 < ans.length
    · exact refBisect_limit n times A c ans w ha (by omega) h3
    · exact refBisect_main n times A c ans w ha (by omega) (by omega) (by omega)
end Go.Proofs.Ytjpbmbonccenfaa
