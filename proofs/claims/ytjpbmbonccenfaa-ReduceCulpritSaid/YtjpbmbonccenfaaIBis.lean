/- The program's Bisect: the search that it hands to run. -/
import Derived.Test.YtjpbmbonccenfaaIBetw
import Derived.Test.YtjpbmbonccenfaaQuest
import Derived.Test.YtjpbmbonccenfaaRBis
namespace Go.Proofs.Ytjpbmbonccenfaa
open Go.RowKit
set_option linter.unusedVariables false

/-- The loop: a question, or low, high and how many answers were used. -/
def bisI (ans : List Int) (T : Nat) : Nat → (Int → Bool) → Int → Int → Nat → Option (Int ⊕ (Int × Int × Int × Nat))
  | 0, _, _, _, _ => none
  | t + 1, kn, lo, hi, used =>
    let v := betw kn lo hi
    if v < 0 then some (.inr (0, lo, hi, used)) else match ver ans T used 3 with
      | none => some (.inl v)
      | some (x, u) => bisI ans T t (fun i => i == v || kn i) (if x = 1 then v else lo) (if x = 2 then v else hi) u
def bisAll (N : Nat) (T : Nat) (ans : List Int) : Option (Int ⊕ (Int × Int × Int × Nat)) :=
  match ver ans T 0 3 with
  | none => some (.inl 0)
  | some (x, u) => if x ≠ 1 then some (.inr (7, 0, N - 1, u)) else match ver ans T u 3 with
    | none => some (.inl (N - 1))
    | some (y, u') => if y ≠ 2 then some (.inr (7, 0, N - 1, u')) else bisI ans T (N + 1) kn0 0 (N - 1) u'

/-- What it comes to. -/
def finB (ans : List Int) : Option (Int ⊕ (Int × Int × Int × Nat)) → Qst × Int
  | none => (qNone, 0)
  | some (.inl v) => (⟨false, [v], [], []⟩, 0)
  | some (.inr (e, lo, hi, u)) => endOf false [] e (decide (u < ans.length)) [lo, hi] []
theorem bisI_fin (ans : List Int) (T : Nat) : ∀ (t : Nat) (kn : Int → Bool) (lo hi : Int) (u : Nat), bisLoop ans T t kn lo hi u = finB ans (bisI ans T t kn lo hi u)
  | 0, _, _, _, _ => rfl
  | t + 1, kn, lo, hi, u => by
    simp only [bisLoop, bisI]
    by_cases hv : betw kn lo hi < 0
    · rw [if_pos hv, if_pos hv]; rfl
    · rw [if_neg hv, if_neg hv]
      rcases ver ans T u 3 with _ | ⟨x, u'⟩
      · rfl
      · exact bisI_fin ans T t _ _ _ _
theorem bisect_fin {n times : Int} {ans : List Int} {N : Nat} (hN : n = N) (h2 : 2 ≤ n) (h3 : n ≤ 256) (h4 : ans.length ≤ 4096) : bisect n times ans = finB ans (bisAll N (timesOf times).toNat ans) := by
  subst hN
  unfold bisect bisAll
  rw [if_neg (by omega), if_neg (by omega)]
  rcases ver ans (timesOf times).toNat 0 3 with _ | ⟨x, u⟩
  · rfl
  · by_cases hx : x = 1
    · simp only [hx, ne_eq, not_true_eq_false, if_false]
      rcases ver ans (timesOf times).toNat u 3 with _ | ⟨y, u'⟩
      · rfl
      · by_cases hy : y = 2
        · simp only [hy, not_true_eq_false, if_false]
          exact bisI_fin _ _ _ _ _ _ _
        · simp [hy, finB, endOf, qNone]
    · simp [hx, finB, endOf, qNone]

theorem betwFrom_congr {kn kn' : Int → Bool} {low high : Int} (h : ∀ i, low < i → i < high → kn i = kn' i) (m : Int) : ∀ (t : Nat) (d : Int), betwFrom kn low high m t d = betwFrom kn' low high m t d
  | 0, _ => rfl
  | t + 1, d => by
    have e : betwAt kn low high m d = betwAt kn' low high m d := by
      unfold betwAt
      have a1 : (low < m + d ∧ m + d < high ∧ kn (m + d) = false) ↔ (low < m + d ∧ m + d < high ∧ kn' (m + d) = false) :=
        ⟨fun ⟨x, y, z⟩ => ⟨x, y, by rw [← h _ x y]; exact z⟩, fun ⟨x, y, z⟩ => ⟨x, y, by rw [h _ x y]; exact z⟩⟩
      have a2 : (low < m - d ∧ m - d < high ∧ kn (m - d) = false) ↔ (low < m - d ∧ m - d < high ∧ kn' (m - d) = false) :=
        ⟨fun ⟨x, y, z⟩ => ⟨x, y, by rw [← h _ x y]; exact z⟩, fun ⟨x, y, z⟩ => ⟨x, y, by rw [h _ x y]; exact z⟩⟩
      simp only [a1, a2]
    unfold betwFrom
    rw [e]
    split
    · rfl
    · exact betwFrom_congr h m t (d + 1)
theorem betw_congr {kn kn' : Int → Bool} {low high : Int} (h : ∀ i, low < i → i < high → kn i = kn' i) : betw kn low high = betw kn' low high := betwFrom_congr h _ _ _

theorem Blk.ne_ {w : World} {a b : Nat} {t t' : TypeId} {cs cs' : Array Value} (h : Blk w a t cs) (h' : Blk w b t' cs') (hne : t ≠ t') : a ≠ b := by
  rintro rfl
  unfold Blk at h h'
  rw [h] at h'
  injection h' with h'
  injection h' with _ ht
  exact hne ht

/-- Two variables hold numbers. -/
def TwoBoxes (bl bh : Nat) (W : World) : Prop := ∃ lo hi : Int, Blk W bl 3 #[.int .i64 lo] ∧ Blk W bh 3 #[.int .i64 hi]
def BisDo (w1 : World) (s km bl bh : Nat) (ans : List Int) (o : Option (Int ⊕ (Int × Int × Int × Nat))) (e : Ending) (w' : World) : Prop :=
  match o with
  | none => False
  | some (.inl v) => DoAsk w1 s km [bl, bh] (TwoBoxes bl bh) [v] e w'
  | some (.inr (er, lo, hi, u)) => DoEnd w1 s km ans [bl, bh] (fun W => Blk W bl 3 #[.int .i64 lo] ∧ Blk W bh 3 #[.int .i64 hi]) er u e w'

theorem lookup1 {a x n : Int} (h : n ≠ a) : List.lookup n [(a, x)] = none := by simp [List.lookup, beq_eq_false_iff_ne.2 h]
theorem isKn_snoc (m : List (Int × Int)) (v x i : Int) : isKn (m ++ [(v, x)]) i = (isKn m i || (i == v)) := by
  unfold isKn
  rw [lookup_snoc]
  cases h : m.lookup i <;> by_cases h2 : i = v <;> simp [h2]

theorem sub3 {s km bl bh : Nat} : ∀ x ∈ [s, bl, bh], x ∈ s :: km :: [bl, bh] := by
  intro x hx
  simp at hx ⊢
  rcases hx with h | h | h
  · exact .inl h
  · exact .inr (.inr (.inl h))
  · exact .inr (.inr (.inr h))
/-- Between two rounds of the program's loop. -/
def IBisInv (w1 : World) (N : Nat) (T : Int) (ans : List Int) (s km bl bh v kv : Nat) (t : Nat) (wr : World) : Prop :=
  ∃ (kn : Int → Bool) (bs : List Bool) (m : List (Int × Int)) (lo hi : Int) (u : Nat), 0 ≤ lo ∧ lo < hi ∧ hi < N ∧ u ≤ ans.length ∧ bs.length = N ∧ Hid (Known kn bs) ∧ t = bs.count false + 1 ∧
    Hid (∀ i, 0 < i → i < (N : Int) - 1 → kn i = isKn m i) ∧ Hid (bisAll N T.toNat ans = bisI ans T.toNat t kn lo hi u) ∧ Srch wr s ans u km ∧ Vers wr v s T kv m ∧ Blk wr bl 3 #[.int .i64 lo] ∧ Blk wr bh 3 #[.int .i64 hi] ∧ Fr [s, bl, bh] w1 wr

theorem notU8 {z : Int} (i : Nat) (u : Value) (h : (#[Value.int .i64 z] : Array Value)[i]? = some u) (x : Int) : u ≠ .int .u8 x := by
  match i, h with
  | 0, h => simp at h; subst h; simp
theorem Srch.far {w : World} {s used km b : Nat} {ans : List Int} {t : TypeId} {z : Int} (h : Srch w s ans used km) (hb : Blk w b t #[.int .i64 z]) (hne : s ≠ b) (u : Value) : Srch (w.setCell ⟨b, 0, none⟩ u) s ans used km := by
  obtain ⟨A, c, hs, hr, hn⟩ := h.ex
  exact ⟨A, c, hs.far (p := ⟨b, 0, none⟩) hne u, hr.setCell (p := ⟨b, 0, none⟩) (hr.apart hb notU8) u, hn⟩
theorem Vers.far {w : World} {v s kv b : Nat} {times : Int} {m : List (Int × Int)} {t : TypeId} {z : Int} (h : Vers w v s times kv m) (hb : Blk w b t #[.int .i64 z]) (hne : v ≠ b ∧ kv ≠ b) (u : Value) : Vers (w.setCell ⟨b, 0, none⟩ u) v s times kv m :=
  ⟨h.blk.far (p := ⟨b, 0, none⟩) hne.1 u, h.map.fr ((Fr.refl [b] w).setCell (p := ⟨b, 0, none⟩) (.inl (by simp)) u) (by simpa using hne.2)⟩
theorem ibis_next {w1 wr : World} {N : Nat} {T : Int} {ans : List Int} {s km bl bh v kv : Nat} {kn : Int → Bool} {bs : List Bool} {m : List (Int × Int)} {lo hi lo' hi' at_ x : Int} {u2 : Nat}
    (hstep : Hid (bisAll N T.toNat ans = bisI ans T.toNat (bs.count false) (fun i => i == at_ || kn i) (if x = 1 then at_ else lo) (if x = 2 then at_ else hi) u2))
    (hkn2 : Hid (Known (fun i => i == at_ || kn i) (bs.set at_.toNat true))) (hcnt : Hid ((bs.set at_.toNat true).count false + 1 = bs.count false))
    (hag : Hid (∀ i, 0 < i → i < (N : Int) - 1 → (i == at_ || kn i) = isKn (m ++ [(at_, x)]) i)) (hs : Srch wr s ans u2 km) (hv : Vers wr v s T kv (m ++ [(at_, x)])) (hbl : Blk wr bl 3 #[.int .i64 lo']) (hbh : Blk wr bh 3 #[.int .i64 hi']) (hf : Fr [s, bl, bh] w1 wr)
    (hlo : 0 ≤ lo) (hhi : hi < N) (hv1 : lo < at_) (hv2 : at_ < hi) (hbs : bs.length = N) (hu : u2 ≤ ans.length) (hl : lo' = if x = 1 then at_ else lo) (hh : hi' = if x = 2 then at_ else hi) : IBisInv w1 N T ans s km bl bh v kv (bs.count false) wr := by
  refine ⟨fun i => i == at_ || kn i, bs.set at_.toNat true, _, lo', hi', u2, ?_, ?_, ?_, hu, by simp [hbs], hkn2, hcnt.out.symm, hag, ?_, hs, hv, hbl, hbh, hf⟩
  · rw [hl]; split <;> omega
  · rw [hl, hh]; split <;> split <;> omega
  · rw [hh]; split <;> omega
  · rw [hl, hh]; exact hstep

set_option maxRecDepth 100000 in
set_option maxHeartbeats 1600000 in
theorem bisdo_any (s km bt bl bh N : Nat) (times : Int) (ans : List Int) (w1 : World) (hs : Srch w1 s ans 0 km) (hbt : Blk w1 bt 3 #[.int .i64 times]) (hbl : Blk w1 bl 3 #[.int .i64 0]) (hbh : Blk w1 bh 3 #[.int .i64 ((N : Int) - 1)])
    (hlh : bl ≠ bh) (h2 : 2 ≤ N) (h3 : N ≤ 256) :
    Calls Try.prog 39 #[.pointer (some ⟨s, 0, none⟩), .pointer (some ⟨bt, 0, none⟩), .pointer (some ⟨bl, 0, none⟩), .pointer (some ⟨bh, 0, none⟩)] w1 (BisDo w1 s km bl bh ans (bisAll N (timesOf times).toNat ans)) := by
  have ct := hbt.cell 0 rfl
  have hT := timesOf_le times
  obtain ⟨hT1, hT9⟩ := hT
  have hsl : bl ≠ s := by
    obtain ⟨_, _, hb, _⟩ := hs.ex
    exact hbl.ne_ hb (by decide)
  have hsh : bh ≠ s := by
    obtain ⟨_, _, hb, _⟩ := hs.ex
    exact hbh.ne_ hb (by decide)
  have hll := hbl.lt
  have hlh2 := hbh.lt
  have hsL := hs.lt
  go_enter Try.func39, Try.ntmps39
  go_wp2_with fail
  refine (judge_any s times w1).mono ?_
  rintro e w2 ⟨rfl, hf2, hv2⟩
  have hs2 := hs.fr0 hf2
  have hbl2 := hbl.fr hf2 (by simp)
  have hbh2 := hbh.fr hf2 (by simp)
  have cl2 := hbl2.cell 0 rfl
  generalize hvb : w1.heap.size + 1 = v at hv2
  have hvl : w1.heap.size < v := by omega
  clear hvb ct
  generalize hkb : w1.heap.size = kv at hv2
  have hks : kv ≠ s := by omega
  have hvs : v ≠ s := by omega
  have hvk : v ≠ kv := by omega
  have hkl : w1.heap.size ≤ kv := by omega
  clear hkb
  generalize hTe : timesOf times = T at *
  rcases hv : ver ans T.toNat 0 3 with _ | ⟨x, u⟩
  · have HV := Lib.hid hv
    clear hv
    go_wp2_with fail
    refine (of_ask v s kv km T [] ans 0 0 _ hv2 hs2 hvs hks (by omega) (by omega) (by omega) rfl HV.out).mono ?_
    rintro e w3 ⟨A3, c3, rfl, hr3, hf3, hnw⟩
    go_wp2
    rw [show bisAll N T.toNat ans = some (.inl 0) by have := HV.out; simp [bisAll, this]]
    have hf13 : Fr [s] w1 w3 := (hf2.mono (by simp)).trans2 hf3 (by simp)
    exact ⟨rfl, A3, c3, rfl, hr3, hf13.mono (by simp), hnw.mono hf2.size, 0, N - 1, hbl.fr hf13 (by simpa using hsl), hbh.fr hf13 (by simpa using hsh)⟩
  · have HV := Lib.hid hv
    have hu := ver_used hv (by omega)
    clear hv
    by_cases hx : x = 1
    · have hxb : (x != 1) = false := by simp [hx]
      have HX := Lib.hid hx
      clear hx
      go_wp2_with fail
      refine (of_got v s kv km T [] ans 0 0 _ hv2 hs2 hvs hks hvk (by omega) (by omega) (by omega) rfl HV.out).mono ?_
      rintro e w3 ⟨rfl, hf3, hs3, hv3⟩
      have hf13 : Fr [s] w1 w3 := (hf2.mono (by simp)).trans2 hf3 (by simp; omega)
      have hbl3 := hbl.fr hf13 (by simpa using hsl)
      have hbh3 := hbh.fr hf13 (by simpa using hsh)
      have ch3 := hbh3.cell 0 rfl
      rcases hv' : ver ans T.toNat u 3 with _ | ⟨y, u'⟩
      · have HV2 := Lib.hid hv'
        clear hv'
        go_wp2_with fail
        refine (of_ask v s kv km T _ ans u ((N : Int) - 1) _ hv3 hs3 hvs hks (by omega) (by omega) (by omega) (lookup1 (by omega)) HV2.out).mono ?_
        rintro e w4 ⟨A4, c4, rfl, hr4, hf4, hnw⟩
        go_wp2
        rw [show bisAll N T.toNat ans = some (.inl (N - 1)) by
          have h5 := HV.out
          have h6 := HV2.out
          have h7 := HX.out
          simp [bisAll, h5, h6, h7]]
        have hf14 : Fr [s] w1 w4 := hf13.trans2 hf4 (by simp)
        exact ⟨rfl, A4, c4, rfl, hr4, hf14.mono (by simp), hnw.mono hf13.size, 0, N - 1, hbl.fr hf14 (by simpa using hsl), hbh.fr hf14 (by simpa using hsh)⟩
      · have HV2 := Lib.hid hv'
        have hu2 := ver_used hv' (by omega)
        clear hv'
        by_cases hy : y = 2
        · have hyb : (y != 2) = false := by simp [hy]
          have HY := Lib.hid hy
          clear hy
          go_wp2_with fail
          refine (of_got v s kv km T _ ans u ((N : Int) - 1) _ hv3 hs3 hvs hks hvk (by omega) (by omega) (by omega) (lookup1 (by omega)) HV2.out).mono ?_
          rintro e w4 ⟨rfl, hf4, hs4, hv4⟩
          have hf14 : Fr [s] w1 w4 := hf13.trans2 hf4 (by simp; omega)
          have hI : IBisInv w1 N T ans s km bl bh v kv (N + 1) w4 := by
            refine ⟨kn0, List.replicate N false, [(0, 1), ((N : Int) - 1, 2)], 0, N - 1, u', by omega, by omega, by omega, by omega, by simp, fun i hi => ?_, by simp, fun i h1 h2 => ?_, ?_, hs4, ?_, hbl.fr hf14 (by simpa using hsl), hbh.fr hf14 (by simpa using hsh), hf14.mono (by simp)⟩
            · simp at hi; simp [kn0, hi]
            · have a1 : (i == 0) = false := by simp; omega
              have a2 : (i == (N : Int) - 1) = false := by simp; omega
              simp [kn0, isKn, List.lookup, a1, a2]
            · show bisAll N T.toNat ans = _
              have h5 := HV.out
              have h6 := HV2.out
              have h7 := HX.out
              have h8 := HY.out
              simp [bisAll, h5, h6, h7, h8]
            · have h7 := HX.out
              have h8 := HY.out
              rw [h7, h8] at hv4
              exact hv4
          go_wp2_with fail
          clear hv4 hs4 hf14 hf4 hbl3 hbh3 ch3 hv3 hs3 hf13 hf3 hbl2 hbh2 cl2 hs2 hv2 hf2 hxb hyb
          go_loopg [] (N + 1) (IBisInv w1 N T ans s km bl bh v kv)
          case atStart => exact hI
          case round =>
            clear hI
            obtain ⟨kn, bs, m, lo, hi, ur, hlo, hlh', hhi, hur, hbs, hkn, ht, hag, hbi, hsr, hvr, hblr, hbhr, hfr⟩ := hrel
            obtain rfl := ht
            have cl := hblr.cell 0 rfl
            have ch := hbhr.cell 0 rfl
            go_wp2_with fail
            refine (ibetween_any v s kv T m lo hi _ hvr hlo (by omega) (by omega)).mono ?_
            rintro e w5 ⟨rfl, hf5⟩
            have hcg := betw_congr (kn := isKn m) (kn' := kn) (low := lo) (high := hi) (fun i h1 h2 => (hag.out i (by omega) (by omega)).symm)
            rw [hcg]
            have hbw : Hid (0 ≤ betw kn lo hi → _) := betw_range (kn := kn) (low := lo) (high := hi)
            generalize hvv : betw kn lo hi = at_ at hbw
            have HVV := Lib.hid hvv
            clear hvv hcg
            have hs5 := hsr.fr0 hf5
            have hv5 := hvr.fr hf5 (by simp) (by simp)
            have hbl5 := hblr.fr hf5 (by simp)
            have hbh5 := hbhr.fr hf5 (by simp)
            have hf15 := hfr.trans0 hf5
            by_cases hneg : at_ < 0
            · go_wp2
              go_ret
              rw [show bisAll N T.toNat ans = some (.inr (0, lo, hi, ur)) by
                rw [hbi.out]; simp only [bisI, HVV.out, if_pos (show at_ < 0 by omega)]]
              exact ⟨rfl, hs5, hf15.mono sub3, hbl5, hbh5⟩
            · obtain ⟨hv1, hv2, hv3⟩ := hbw.out (by omega)
              have HV3 := Lib.hid hv3
              have hlk : m.lookup at_ = none := by
                have := hag.out at_ (by omega) (by omega)
                rw [hv3] at this
                unfold isKn at this
                cases hh : m.lookup at_ with
                | none => rfl
                | some z => rw [hh] at this; cases this
              have HLK := Lib.hid hlk
              clear hv3 hbw hlk
              rcases hver : ver ans T.toNat ur 3 with _ | ⟨x, u2⟩
              · have HVE := Lib.hid hver
                clear hver
                go_wp2_with fail
                refine (of_ask v s kv km T m ans ur at_ _ hv5 hs5 hvs hks (by omega) (by omega) (by omega) HLK.out HVE.out).mono ?_
                rintro e w6 ⟨A6, c6, rfl, hr6, hf6, hnw⟩
                go_wp2
                rw [show bisAll N T.toNat ans = some (.inl at_) by
                  rw [hbi.out]; simp only [bisI, HVV.out, if_neg (show ¬ at_ < 0 by omega), HVE.out]]
                exact ⟨rfl, A6, c6, rfl, hr6, (hf15.mono sub3).trans2 hf6 (by simp), hnw.mono hf15.size, lo, hi, hbl5.fr hf6 (by simpa using hsl), hbh5.fr hf6 (by simpa using hsh)⟩
              · have HVE := Lib.hid hver
                have hu2 := ver_used hver hur
                clear hver
                have hvl2 : at_.toNat < bs.length := by omega
                have hbv := hkn.out at_.toNat hvl2
                rw [show ((at_.toNat : Nat) : Int) = at_ by omega, HV3.out] at hbv
                have HBV := Lib.hid hbv
                clear hbv
                have hstep : Hid (bisAll N T.toNat ans = bisI ans T.toNat (bs.count false) (fun i => i == at_ || kn i) (if x = 1 then at_ else lo) (if x = 2 then at_ else hi) u2) := by
                  show bisAll N T.toNat ans = _
                  rw [hbi.out]; simp only [bisI, HVV.out, if_neg (show ¬ at_ < 0 by omega), HVE.out]
                have hcnt : Hid ((bs.set at_.toNat true).count false + 1 = bs.count false) := count_set HBV.out
                have hkn2 : Hid (Known (fun i => i == at_ || kn i) (bs.set at_.toNat true)) := known_set hkn.out (by omega)
                have hag2 : Hid (∀ i, 0 < i → i < (N : Int) - 1 → (i == at_ || kn i) = isKn (m ++ [(at_, x)]) i) := by
                  show ∀ i, 0 < i → i < (N : Int) - 1 → (i == at_ || kn i) = isKn (m ++ [(at_, x)]) i
                  intro i h1 h2
                  rw [isKn_snoc, hag.out i h1 h2, Bool.or_comm]
                go_wp2_with fail
                refine (of_got v s kv km T m ans ur at_ _ hv5 hs5 hvs hks hvk (by omega) (by omega) (by omega) HLK.out HVE.out).mono ?_
                rintro e w6 ⟨rfl, hf6, hs6, hv6⟩
                have hf16 : Fr [s, bl, bh] w1 w6 := hf15.trans2 hf6 (by simp; omega)
                have hbl6 := hbl5.fr hf6 (by simp; omega)
                have hbh6 := hbh5.fr hf6 (by simp; omega)
                by_cases hx1 : x = 1
                · have hb1 : (x == 1) = true := by simpa using hx1
                  have HX1 := Lib.hid hx1
                  clear hx1
                  have qc := hbl6.cell 0 rfl
                  have qd := hbl6.frozen 0
                  go_wp2
                  go_roundg (bs.count false)
                  case measure => omega
                  case rel => exact ibis_next hstep hkn2 hcnt hag2 (hs6.far hbl6 (by omega) _) (hv6.far hbl6 (by omega) _) (hbl6.set_ 0 _) (hbh6.far (p := ⟨bl, 0, none⟩) (by show bh ≠ bl; omega) _) (hf16.setCell (p := ⟨bl, 0, none⟩) (.inl (by simp)) _) hlo hhi hv1 hv2 hbs hu2.2 (by simp [HX1.out]) (by have := HX1.out; rw [if_neg (by omega)])
                · have hb1 : (x == 1) = false := by simpa using hx1
                  have HX1 := Lib.hid hx1
                  clear hx1
                  by_cases hx2 : x = 2
                  · have hb2 : (x == 2) = true := by simpa using hx2
                    have HX2 := Lib.hid hx2
                    clear hx2
                    have qc := hbh6.cell 0 rfl
                    have qd := hbh6.frozen 0
                    go_wp2
                    go_roundg (bs.count false)
                    case measure => omega
                    case rel => exact ibis_next hstep hkn2 hcnt hag2 (hs6.far hbh6 (by omega) _) (hv6.far hbh6 (by omega) _) (hbl6.far (p := ⟨bh, 0, none⟩) (by show bl ≠ bh; omega) _) (hbh6.set_ 0 _) (hf16.setCell (p := ⟨bh, 0, none⟩) (.inl (by simp)) _) hlo hhi hv1 hv2 hbs hu2.2 (by have := HX2.out; rw [if_neg (by omega)]) (by simp [HX2.out])
                  · have hb2 : (x == 2) = false := by simpa using hx2
                    have HX2 := Lib.hid hx2
                    clear hx2
                    go_wp2
                    go_roundg (bs.count false)
                    case measure => omega
                    case rel => exact ibis_next hstep hkn2 hcnt hag2 hs6 hv6 hbl6 hbh6 hf16 hlo hhi hv1 hv2 hbs hu2.2 (by simp [HX1.out]) (by simp [HX2.out])
        · have hyb : (y != 2) = true := by simpa using hy
          have HY := Lib.hid hy
          clear hy
          go_wp2_with fail
          refine (of_got v s kv km T _ ans u ((N : Int) - 1) _ hv3 hs3 hvs hks hvk (by omega) (by omega) (by omega) (lookup1 (by omega)) HV2.out).mono ?_
          rintro e w4 ⟨rfl, hf4, hs4, hv4⟩
          have hf14 : Fr [s] w1 w4 := hf13.trans2 hf4 (by simp; omega)
          go_wp2
          go_ret
          rw [show bisAll N T.toNat ans = some (.inr (7, 0, N - 1, u')) by
            have h5 := HV.out
            have h6 := HV2.out
            have h7 := HX.out
            have h8 := HY.out
            simp [bisAll, h5, h6, h7, h8]]
          exact ⟨rfl, hs4, hf14.mono (by simp), hbl.fr hf14 (by simpa using hsl), hbh.fr hf14 (by simpa using hsh)⟩
    · have hxb : (x != 1) = true := by simpa using hx
      have HX := Lib.hid hx
      clear hx
      go_wp2_with fail
      refine (of_got v s kv km T [] ans 0 0 _ hv2 hs2 hvs hks hvk (by omega) (by omega) (by omega) rfl HV.out).mono ?_
      rintro e w3 ⟨rfl, hf3, hs3, hv3⟩
      have hf13 : Fr [s] w1 w3 := (hf2.mono (by simp)).trans2 hf3 (by simp; omega)
      go_wp2
      go_ret
      rw [show bisAll N T.toNat ans = some (.inr (7, 0, N - 1, u)) by
        have h5 := HV.out
        have h7 := HX.out
        simp [bisAll, h5, h7]]
      exact ⟨rfl, hs3, hf13.mono (by simp), hbl.fr hf13 (by simpa using hsl), hbh.fr hf13 (by simpa using hsh)⟩
end Go.Proofs.Ytjpbmbonccenfaa
