/- ReduceBisectEnds: the walk. -/
import Derived.Test.YtjpbmbonccenfaaLEnds1
import Derived.Deep.LoopGhost
import Derived.Deep.RegionHeld3
import Derived.Deep.AppendLies
import Derived.WalkSpells
namespace Go.Proofs.Ytjpbmbonccenfaa
open Go.RowKit
set_option linter.unusedVariables false

/-- The kind of a version. -/
def kindOf (kinds : List Int) (x : Int) : Nat := (kinds.getD x.toNat 0).toNat % 4
theorem kind_at {kinds : List Int} (hk : ∀ x ∈ kinds, 0 ≤ x ∧ x ≤ 255) {v : Nat} (hv : v < kinds.length) : ∃ k : Nat, k ≤ 255 ∧ kinds[v]? = some (k : Int) ∧ kindOf kinds v = k % 4 := by
  have h := hk kinds[v] (List.getElem_mem hv)
  refine ⟨kinds[v].toNat, by omega, ?_, ?_⟩
  · rw [List.getElem?_eq_getElem hv]; congr 1; omega
  · unfold kindOf; simp [hv]

theorem Blk.farFour {w : World} {g g' : Nat} {t : TypeId} {cs : Array Value} (h : Blk w g t cs) (hne : g ≠ g') (a0 a1 a2 a3 : Value) :
    Blk ((((w.setCell ⟨g', 0, none⟩ a0).setCell ⟨g', 1, none⟩ a1).setCell ⟨g', 2, none⟩ a2).setCell ⟨g', 3, none⟩ a3) g t cs :=
  (((h.far (p := ⟨g', 0, none⟩) hne a0).far (p := ⟨g', 1, none⟩) hne a1).far (p := ⟨g', 2, none⟩) hne a2).far (p := ⟨g', 3, none⟩) hne a3
theorem Rd.zero {α : Type} {w : World} {enc : α → Value} {b off c : Nat} {x : α} {xs : List α} (h : Rd w enc (some ⟨b, off, none⟩) c (x :: xs)) : w.cell? ⟨b, off, none⟩ = some (enc x) := by
  obtain ⟨b', off', hA, hc⟩ := h.at0 (by simp)
  injection hA with hA
  injection hA with e1 e2
  subst e1 e2
  exact hc 0 x rfl
theorem Rd.get {α : Type} {w : World} {enc : α → Value} {b off c k : Nat} {x : α} {xs : List α} (h : Rd w enc (some ⟨b, off, none⟩) c xs) (hx : xs[k]? = some x) : w.cell? ⟨b, off + k, none⟩ = some (enc x) := by
  obtain ⟨b', off', hA, hc⟩ := h.at0 (by have := (List.getElem?_eq_some_iff.1 hx).1; omega)
  injection hA with hA
  injection hA with e1 e2
  subst e1 e2
  exact hc k x hx
def natI (n : Nat) : Value := .int .i64 n
/-- Between two rounds. -/
def EndRel (w : World) (N T : Nat) (K : Int → Nat) (ga gq B : Nat) (t : Nat) (v : Value) (wr : World) : Prop :=
  ∃ (ans : List Int) (ak : List Nat) (A : Option Addr) (c : Nat) (x1 x2 x3 : Value), v = .slice A ans.length c ∧ wr.ownsRow B 33 1 (.slice A ans.length c) ans.length (ans.map (.int .u8)) ∧
    Blk wr ga 3 (ak.map natI).toArray ∧ Blk wr gq 26 #[.bool false, x1, x2, x3] ∧ Hid (BSt N T K ans ak) ∧ Hid (Asked N T ans ak) ∧ t + ans.length = N * 9 + 1 ∧ Fr [] w wr

theorem elemVerd : Elem Try.prog 22 33 (.int .u8 0) 1 1 := ⟨Try.underlying22, by kernel_rfl, rfl, by omega, by omega⟩
theorem bst_len {N T : Nat} {K : Int → Nat} {ans : List Int} {ak : List Nat} (h : Asked N T ans ak) : ans.length ≤ N * T := asked_sum h

theorem makeNats {w0 : World} {H n : Nat} {t : TypeId} (h : w0.ownsRow H t 1 (.slice (some ⟨H, 0, none⟩) n n) n (List.replicate n (.int .i64 0))) (hn : 0 < n) : Blk w0 H t ((List.replicate n 0).map natI).toArray := by
  have := own_blk h hn
  simpa [natI, List.map_replicate] using this

def sortBnd (n : Nat) (s : Int × Bool) : Prop := 0 ≤ s.1 ∧ s.1 ≤ n
theorem sort_bnd {J : Int → Int} {n : Nat} : ∀ t : Nat, t ≤ n → sortBnd n (sortTo J n t)
  | 0, _ => ⟨by show (0 : Int) ≤ (n : Int); omega, by show (n : Int) ≤ (n : Int); omega⟩
  | t + 1, h => by
    have := sort_bnd (J := J) (n := n) t (by omega)
    unfold sortBnd at *
    rw [sortTo]; simp only [sortStep]
    split <;> omega
set_option maxRecDepth 100000 in
set_option maxHeartbeats 6400000 in
theorem LEnds_any (kinds : List Int) (times : Int) (A : Option Addr) (c : Nat) (w : World) (ha : Rd w (.int .u8) A c kinds) (hk : ∀ x ∈ kinds, 0 ≤ x ∧ x ≤ 255) (ht : -9223372036854775808 ≤ times) (ht' : times ≤ 9223372036854775807) :
    Calls Try.prog 4 #[.slice A kinds.length c, .int .i64 times] w (RetV w (.bool true)) := by
  have hbd := ha.bound
  by_cases h2 : kinds.length < 2
  · have d1 : decide (kinds.length < 2) = true := by simpa using h2
    go_enter Try.func4, Try.ntmps4
    go_wp2_with fail
    refine (runs_any _).mono ?_
    rintro e w1 ⟨rfl, hf1⟩
    go_wp2
    go_ret
    exact ⟨rfl, hf1⟩
  · by_cases h40 : 40 < kinds.length
    · have d1 : decide (kinds.length < 2) = false := by simpa using h2
      have d2 : decide (40 < kinds.length) = true := by simpa using h40
      go_enter Try.func4, Try.ntmps4
      go_wp2_with fail
      refine (runs_any _).mono ?_
      rintro e w1 ⟨rfl, hf1⟩
      go_wp2
      go_ret
      exact ⟨rfl, hf1⟩
    · obtain ⟨T, hT⟩ : ∃ T : Nat, (T : Int) = timesOf times := ⟨(timesOf times).toNat, by have := timesOf_le times; omega⟩
      have hT9 := timesOf_le times
      obtain ⟨mx, hmx⟩ : ∃ mx, (if times < 1 then (1 : Int) else times) = mx := ⟨_, rfl⟩
      have hmn : (if 9 < mx then (9 : Int) else mx) = (T : Int) := by
        rw [hT, ← hmx]; unfold timesOf; (repeat' split) <;> omega
      have HT := Lib.hid hT
      have hT1 : 1 ≤ T := by omega
      have hT9' : T ≤ 9 := by omega
      clear hT hT9
      go_enter Try.func4, Try.ntmps4
      go_wp2_with (at_make; refine wpList_makeN rfl _ _ _ rfl elemInts rfl kinds.length rfl rfl (by omega) ?_; intro w0 hown0 hg0)
      have hNN : 2 ≤ kinds.length := by omega
      have hNM : kinds.length ≤ 40 := by omega
      clear hmx hmn
      have hf0 : Fr [] w w0 := (Fr.refl _ _).grown hg0 (by simp)
      have hB0 : w.heap.size < w0.heap.size := (hown0.lt _ rfl).2
      have hI : EndRel w kinds.length T (kindOf kinds) w.heap.size w0.heap.size (w0.heap.size + 1) (kinds.length * 9 + 1) (.slice none 0 0) (w0.alloc (.cells #[.bool false, .slice none 0 0, .slice none 0 0, .slice none 0 0] 26)) :=
        ⟨[], List.replicate kinds.length 0, none, 0, _, _, _, rfl, World.ownsRow_nil _ _ _ _, (makeNats hown0 (by omega)).alloc _, Blk.new _ _ _ _ rfl, bst_init hNN hT1, ⟨by simp, by simp, by simp⟩, rfl, hf0.alloc _⟩
      have hKlt : Hid (∀ x, kindOf kinds x < 4) := fun x => Nat.mod_lt _ (by omega)
      clear hown0 hg0 hf0
      generalize w0.heap.size = gq at *
      have hgq : w.heap.size < gq := hB0
      clear hB0
      go_loopg [8] (kinds.length * 9 + 1) (EndRel w kinds.length T (kindOf kinds) w.heap.size gq (gq + 1))
      case atStart => exact hI
      case round =>
        clear hI
        obtain ⟨ans, ak, A1, c1, x1, x2, x3, rfl, hown, hba, hbq, hst, hal, htl, hf⟩ := hrel
        have hal9 : ans.length ≤ kinds.length * 9 := Nat.le_trans (asked_sum hal.out) (Nat.mul_le_mul_left _ hT9')
        have d5 : decide ((ans.length : Int) ≤ (kinds.length : Int) * 9) = true := by simp; omega
        have q0 := hbq.cell 0 rfl
        have hrd := (Rd.of_own hown).2
        have hfin : Hid (bisect (kinds.length : Int) times ans = finB ans (bisAll kinds.length T ans)) := by
          show _ = _
          rw [bisect_fin (N := kinds.length) rfl (by omega) (by omega) (by omega), ← HT.out]; rfl
        rcases bst_step hNN hT1 hKlt.out hst.out with ⟨v, cc, hba1, hv, hak, hcc, hst'⟩ | ⟨⟨u, hba1⟩, hj⟩ | ⟨lo, hi, hba1, hgood⟩
        · have HQ : Hid (bisect (kinds.length : Int) times ans = (⟨false, [(v : Int)], [], []⟩, 0)) := by
            show _ = _
            rw [hfin.out, hba1]; rfl
          clear hba1 hfin
          have HAK := Lib.hid hak
          have HST := Lib.hid hst'
          have HAS : Hid (Asked kinds.length T (ans ++ [rep (kindOf kinds v) cc]) (ak.set v (cc + 1))) := asked_set hal.out hak hcc _
          clear hak hst'
          go_wp2_with fail
          refine (bisect_any _ times A1 c1 ans wr hrd).mono ?_
          rw [HQ.out]
          rintro e w1 ⟨v1, rfl, hf1, A2, a2, B2, b2, C2, c2, rfl, ⟨hq1, hnA⟩, ⟨hq2, _⟩, hq3, _⟩
          have hq1' : Rd w1 (.int .i64) A2 a2 [(v : Int)] := hq1
          obtain ⟨g2, o2, y2, rfl, hy2, hcy⟩ := hq1'.at_ (k := 0) (by simp)
          obtain rfl : (v : Int) = y2 := by have := hy2.out; simpa using this
          have hgw : wr.heap.size ≤ g2 := hnA ⟨g2, o2, none⟩ rfl
          have hgql := hbq.lt
          have hg2 : g2 ≠ gq := by omega
          have hbq3 := (hbq.fr hf1 (by simp)).alloc (.cells #[.bool false, .slice (some ⟨g2, o2, none⟩) 1 a2, .slice B2 0 b2, .slice C2 0 c2] 26)
          have qc0 := hbq3.cell 0 rfl
          have qc1 := hbq3.cell 1 rfl
          have qc2 := hbq3.cell 2 rfl
          have qc3 := hbq3.cell 3 rfl
          have qd0 := hbq3.frozen 0
          have qd1 := hbq3.frozen 1
          have qd2 := hbq3.frozen 2
          have qd3 := hbq3.frozen 3
          have hn3 := Blk.new w1 26 #[.bool false, .slice (some ⟨g2, o2, none⟩) 1 a2, .slice B2 0 b2, .slice C2 0 c2] _ rfl
          generalize hw3 : w1.alloc (.cells #[.bool false, .slice (some ⟨g2, o2, none⟩) 1 a2, .slice B2 0 b2, .slice C2 0 c2] 26) = w3 at hbq3 qc0 qc1 qc2 qc3 qd0 qd1 qd2 qd3 hn3
          have n0 := hn3.cell 0 rfl
          have n1 := hn3.cell 1 rfl
          have n2 := hn3.cell 2 rfl
          have n3 := hn3.cell 3 rfl
          have hf3 : Fr [] wr w3 := by rw [← hw3]; exact hf1.alloc _
          have hba3 := hba.fr hf3 (by simp)
          have hqq3 : Rd w3 (.int .i64) (some ⟨g2, o2, none⟩) a2 [(v : Int)] := by rw [← hw3]; exact hq1'.alloc _
          have hbq4 := hbq3.four (.bool false) (.slice (some ⟨g2, o2, none⟩) 1 a2) (.slice B2 0 b2) (.slice C2 0 c2)
          have hba4 := hba3.farFour (g' := gq) (by omega) (.bool false) (.slice (some ⟨g2, o2, none⟩) 1 a2) (.slice B2 0 b2) (.slice C2 0 c2)
          have hq4 := hqq3.four (g := gq) (fun _ a h => by injection h with h; subst h; exact hg2) (.bool false) (.slice (some ⟨g2, o2, none⟩) 1 a2) (.slice B2 0 b2) (.slice C2 0 c2)
          have hf4 : Fr [gq] wr _ := fr_four (hf3.mono (by simp)) (.inl (List.mem_singleton.2 rfl)) (.bool false) (.slice (some ⟨g2, o2, none⟩) 1 a2) (.slice B2 0 b2) (.slice C2 0 c2)
          generalize hw4 : (((w3.setCell ⟨gq, 0, none⟩ (.bool false)).setCell ⟨gq, 1, none⟩ (.slice (some ⟨g2, o2, none⟩) 1 a2)).setCell ⟨gq, 2, none⟩ (.slice B2 0 b2)).setCell ⟨gq, 3, none⟩ (.slice C2 0 c2) = w4 at hbq4 hba4 hq4 hf4
          have m0 := hbq4.cell 0 rfl
          have m1 := hbq4.cell 1 rfl
          have z0 := hq4.zero
          obtain ⟨kk, hkk, hkv, hkd⟩ := kind_at hk hv
          have z1 := hba4.cell v (u := .int .i64 cc) (by simp [HAK.out, natI])
          have z2 := hba4.frozen v
          have hfw4 : Fr [] w w4 := hf.trans2 hf4 (by simp; omega)
          obtain ⟨ba, oa, hA⟩ : ∃ ba oa, A = some ⟨ba, oa, none⟩ := by
            obtain ⟨b, o, _, h, _⟩ := ha.at_ (k := v) hv
            exact ⟨b, o, h⟩
          subst hA
          have z3 := (ha.fr0 hfw4).get hkv
          have HKD := Lib.hid hkd
          clear hq1 hq2 hq3 hba3 hbq3 hf3 hn3 hkd hkv hcy
          have hown4 := own_fr hown hf4 (fun k hk => by
            have := (hown.lt k hk).1
            simp; omega)
          have l4 := hf4.size
          obtain ⟨i0, hi0, hz0, hz1, hz2⟩ := info_parts elemVerd.inf
          have a1 : (Value.slice A1 ans.length c1).ownBlock ≠ some gq := fun h => by have := (hown.lt _ h).1; omega
          have a2' : (Value.slice A1 ans.length c1).ownBlock ≠ some g2 := fun h => by have := (hown.lt _ h).2; omega
          have a3 : (Value.slice A1 ans.length c1).ownBlock ≠ some w.heap.size := fun h => by have := (hown.lt _ h).1; omega
          have a4 : (Value.slice A1 ans.length c1).ownBlock ≠ some ba := fun h => by
            have h1 := (hown.lt _ h).1
            have h2 := ha.lt (by omega) ⟨ba, oa, none⟩ rfl
            simp at h2; omega
          have lq := hbq4.lt
          have lg := World.block_lt_of_cell? w4 _ z0
          have la := hba4.lt
          have lb := World.block_lt_of_cell? w4 _ z3
          simp at lg lb
          have v0 : (0 : Int) ≤ (v : Int) := by omega
          have v1 : (v : Int) < (kinds.length : Int) := by omega
          go_wp2_with fail
          go_region_held3 (fun w' => w'.cell? ⟨gq, 1, none⟩ = some (.slice (some ⟨g2, o2, none⟩) 1 a2) ∧ w'.cell? ⟨g2, o2, none⟩ = some (.int .i64 v) ∧ w'.cell? ⟨ba, oa + v, none⟩ = some (.int .u8 kk) ∧ w'.cell? ⟨w.heap.size, v, none⟩ = some (.int .i64 cc))
            (first
              | go_keep
              | (go_split_ands
                 refine ⟨?_, ?_, ?_, ?_⟩
                 · (rw [hgrow.cell_far _ (by simp; omega) (Ne.symm a1)]; assumption)
                 · (rw [hgrow.cell_far _ (by simp; omega) (Ne.symm a2')]; assumption)
                 · (rw [hgrow.cell_far _ (by simp; omega) (Ne.symm a4)]; assumption)
                 · (rw [hgrow.cell_far _ (by simp; omega) (Ne.symm a3)]; assumption)))
            (first
              | (go_at_call 14; refine (reply_any kk cc _ hkk (by omega)).mono ?_; rintro e w' ⟨rfl, rfl⟩)
              | ((refine step_append_lies _ (by rfl) _ _ _ (by rfl) (gq + 1) 33 i0 _ 1 1 Try.underlying22 hi0 hz0 hz1 hz2 rfl (by omega) (.slice A1 ans.length c1) ans.length (ans.map (.int .u8)) (by rfl) ((hown4.alloc _).drew) ⟨w4.heap.size, 0, none⟩ 1 1 [.int .u8 (rep (kk % 4) cc)] (by rfl) (by rfl) (World.news_of_block (cs := #[.int .u8 (rep (kk % 4) cc)]) (t := 33) (fr := (0, 0)) (heap_alloc_new w4 _)) (by simp [Value.oneCell']) (by omega) (by unfold maxLen; omega) (by omega) (by simp; omega) (w4.heap.size + 1) (by simp) ?_; intro g5 c5 w5 hown5 hgrow hat5 hlt5)))
          have hne5 : ∀ k, k < gq + 1 → some k ≠ (Value.slice A1 ans.length c1).ownBlock := fun k hk h => by
            have := (hown.lt k h.symm).1
            omega
          have hba5 := ((hba4.alloc (.cells #[.int .u8 (rep (kk % 4) cc)] 33)).drew).grown hgrow (hne5 _ (by omega))
          have hbq5 := ((hbq4.alloc (.cells #[.int .u8 (rep (kk % 4) cc)] 33)).drew).grown hgrow (hne5 _ (by omega))
          have hf5 : Fr [] w w5 := ((hfw4.alloc (.cells #[.int .u8 (rep (kk % 4) cc)] 33)).drew).grown hgrow (fun k hk => .inr (by
            have := (hown.lt k hk).1
            omega))
          have y0 := hbq5.cell 1 rfl
          have y1 : w5.cell? ⟨g2, o2, none⟩ = some (.int .i64 v) := by
            rw [hgrow.cell_far _ (by simp; omega) (Ne.symm a2')]
            exact (World.cell?_alloc_past (w := w4) _ g2 o2 lg).trans z0
          have y2 := hba5.cell v (u := .int .i64 cc) (by simp [HAK.out, natI])
          have y3 := hba5.frozen v
          clear hba4 hbq4 hq4 hown4 hqq3 m0 m1 z0 z1 z2 z3
          go_wp2
          go_roundg (gk - 1)
          case measure => omega
          case rel =>
            have h1 := HST.out
            have h2 := HAS.out
            rw [HKD.out] at h1 h2
            refine ⟨ans ++ [rep (kk % 4) cc], ak.set v (cc + 1), some ⟨g5, 0, none⟩, c5, _, _, _, by simp, ?_, ?_, hbq5.far (p := ⟨w.heap.size, v, none⟩) (by show gq ≠ w.heap.size; omega) _, h1, h2, by simp; omega, hf5.setCell (p := ⟨w.heap.size, v, none⟩) (.inr (Nat.le_refl _)) _⟩
            · have := own_fr hown5 ((Fr.refl [w.heap.size] w5).setCell (p := ⟨w.heap.size, v, none⟩) (.inl (by simp)) (.int .i64 ((cc : Int) + 1))) (fun k hk => by
                have := (hown5.lt k hk).1
                simp; omega)
              simpa using this
            · have := hba5.set_ v (.int .i64 ((cc : Int) + 1))
              simpa [List.map_set, natI] using this
        · have HQ : Hid (bisect (kinds.length : Int) times ans = (⟨false, [], [], []⟩, 7)) := by
            show _ = _
            rw [hfin.out, hba1]; rfl
          clear hba1 hfin
          obtain ⟨k0, hk0, hv0, hd0⟩ := kind_at hk (v := 0) (by omega)
          obtain ⟨k1, hk1, hv1, hd1⟩ := kind_at hk (v := kinds.length - 1) (by omega)
          obtain ⟨ba, oa, hA⟩ : ∃ ba oa, A = some ⟨ba, oa, none⟩ := by
            obtain ⟨b, o, _, h, _⟩ := ha.at_ (k := 0) (by omega)
            exact ⟨b, o, h⟩
          subst hA
          have HJ : Hid (jud (k0 % 4) T ≠ 1 ∨ jud (k1 % 4) T ≠ 2) := by
            show _ ∨ _
            rw [← hd0, ← hd1]
            rw [show (((kinds.length - 1 : Nat)) : Int) = (kinds.length : Int) - 1 by omega]
            exact hj
          have HV0 := Lib.hid hv0
          have HV1 := Lib.hid hv1
          clear hd0 hd1 hj hv0 hv1
          go_wp2_with fail
          refine (bisect_any _ times A1 c1 ans wr hrd).mono ?_
          rw [HQ.out]
          rintro e w1 ⟨v1, rfl, hf1, A2, a2, B2, b2, C2, c2, rfl, _⟩
          have hf3 : Fr [] w (w1.alloc (.cells #[.bool false, .slice A2 0 a2, .slice B2 0 b2, .slice C2 0 c2] 26)) := hf.trans (hf1.alloc _)
          have z0 : (w1.alloc (.cells #[.bool false, .slice A2 0 a2, .slice B2 0 b2, .slice C2 0 c2] 26)).cell? ⟨ba, oa, none⟩ = some (.int .u8 k0) := by simpa only [Nat.add_zero] using (ha.fr0 hf3).get HV0.out
          have z1 := (ha.fr0 hf3).get HV1.out
          by_cases j0 : jud (k0 % 4) T = 1
          · have e0 : (jud (k0 % 4) T != 1) = false := by simp [j0]
            have e1 : (jud (k1 % 4) T != 2) = true := by
              have := HJ.out.resolve_left (by simp [j0])
              simpa using this
            clear j0
            go_wp2_with fail
            refine (judged_any k0 T _ hk0 hT9').mono ?_
            rintro e w4 ⟨rfl, rfl⟩
            go_wp2_with fail
            refine (judged_any k1 T _ hk1 hT9').mono ?_
            rintro e w4 ⟨rfl, rfl⟩
            go_wp2_with fail
            refine (runs_any _).mono ?_
            rintro e w5 ⟨rfl, hf5⟩
            go_wp2
            go_ret
            exact ⟨rfl, hf3.trans hf5⟩
          · have e0 : (jud (k0 % 4) T != 1) = true := by simp [j0]
            clear j0
            go_wp2_with fail
            refine (judged_any k0 T _ hk0 hT9').mono ?_
            rintro e w4 ⟨rfl, rfl⟩
            go_wp2_with fail
            refine (runs_any _).mono ?_
            rintro e w5 ⟨rfl, hf5⟩
            go_wp2
            go_ret
            exact ⟨rfl, hf3.trans hf5⟩
        · obtain ⟨l, rfl⟩ : ∃ l : Nat, lo = l := ⟨lo.toNat, by have := hgood.lo0; omega⟩
          obtain ⟨h, rfl⟩ : ∃ h : Nat, hi = h := ⟨hi.toNat, by have := hgood.lo0; have := hgood.lt; omega⟩
          have hlh : l < h := by have := hgood.lt; omega
          have hhn : h < kinds.length := by have := hgood.hiN; omega
          have HG := Lib.hid hgood
          have HQ : Hid (bisect (kinds.length : Int) times ans = (⟨true, [], [(l : Int), (h : Int)], []⟩, 0)) := by
            show _ = _
            rw [hfin.out, hba1]; simp [finB, endOf]
          clear hba1 hfin hgood
          obtain ⟨ba, oa, hA⟩ : ∃ ba oa, A = some ⟨ba, oa, none⟩ := by
            obtain ⟨b, o, _, h, _⟩ := ha.at_ (k := 0) (by omega)
            exact ⟨b, o, h⟩
          subst hA
          obtain ⟨k0, hk0, hv0, hd0⟩ := kind_at hk (v := l) (by omega)
          obtain ⟨k1, hk1, hv1, hd1⟩ := kind_at hk (v := h) hhn
          have j0 : Hid (jud (k0 % 4) T = 1) := by show _ = _; rw [← hd0]; exact HG.out.pass
          have j1 : Hid (jud (k1 % 4) T = 2) := by show _ = _; rw [← hd1]; exact HG.out.fail
          have e0 : (jud (k0 % 4) T != 1) = false := by rw [j0.out]; rfl
          have e1 : (jud (k1 % 4) T != 2) = false := by rw [j1.out]; rfl
          have HV0 := Lib.hid hv0
          have HV1 := Lib.hid hv1
          clear hd0 hd1 hv0 hv1
          have dd1 : decide ((l : Int) < 0) = false := by simp
          have dd2 : decide (h ≤ l) = false := by simp; omega
          have dd3 : decide (kinds.length ≤ h) = false := by simp; omega
          go_wp2_with fail
          refine (bisect_any _ times A1 c1 ans wr hrd).mono ?_
          rw [HQ.out]
          rintro e w1 ⟨v1, rfl, hf1, A2, a2, B2, b2, C2, c2, rfl, _, ⟨hq2, hnB⟩, _⟩
          have hq2' : Rd w1 (.int .i64) B2 b2 [(l : Int), (h : Int)] := hq2
          obtain ⟨g2, o2, y2, rfl, _, _⟩ := hq2'.at_ (k := 0) (by simp)
          have hgw : wr.heap.size ≤ g2 := hnB ⟨g2, o2, none⟩ rfl
          have hgql := hbq.lt
          have hg2 : g2 ≠ gq := by omega
          have hbq3 := (hbq.fr hf1 (by simp)).alloc (.cells #[.bool true, .slice A2 0 a2, .slice (some ⟨g2, o2, none⟩) 2 b2, .slice C2 0 c2] 26)
          have qc0 := hbq3.cell 0 rfl
          have qc1 := hbq3.cell 1 rfl
          have qc2 := hbq3.cell 2 rfl
          have qc3 := hbq3.cell 3 rfl
          have qd0 := hbq3.frozen 0
          have qd1 := hbq3.frozen 1
          have qd2 := hbq3.frozen 2
          have qd3 := hbq3.frozen 3
          have hn3 := Blk.new w1 26 #[.bool true, .slice A2 0 a2, .slice (some ⟨g2, o2, none⟩) 2 b2, .slice C2 0 c2] _ rfl
          have hf3 : Fr [] wr (w1.alloc (.cells #[.bool true, .slice A2 0 a2, .slice (some ⟨g2, o2, none⟩) 2 b2, .slice C2 0 c2] 26)) := hf1.alloc _
          have hqq3 := hq2'.alloc (.cells #[.bool true, .slice A2 0 a2, .slice (some ⟨g2, o2, none⟩) 2 b2, .slice C2 0 c2] 26)
          generalize hw3 : w1.alloc (.cells #[.bool true, .slice A2 0 a2, .slice (some ⟨g2, o2, none⟩) 2 b2, .slice C2 0 c2] 26) = w3 at hbq3 qc0 qc1 qc2 qc3 qd0 qd1 qd2 qd3 hn3 hf3 hqq3
          have n0 := hn3.cell 0 rfl
          have n1 := hn3.cell 1 rfl
          have n2 := hn3.cell 2 rfl
          have n3 := hn3.cell 3 rfl
          have hbq4 := hbq3.four (.bool true) (.slice A2 0 a2) (.slice (some ⟨g2, o2, none⟩) 2 b2) (.slice C2 0 c2)
          have hq4 := hqq3.four (g := gq) (fun _ a h => by injection h with h; subst h; exact hg2) (.bool true) (.slice A2 0 a2) (.slice (some ⟨g2, o2, none⟩) 2 b2) (.slice C2 0 c2)
          have hf4 : Fr [gq] wr _ := fr_four (hf3.mono (by simp)) (.inl (List.mem_singleton.2 rfl)) (.bool true) (.slice A2 0 a2) (.slice (some ⟨g2, o2, none⟩) 2 b2) (.slice C2 0 c2)
          generalize hw4 : (((w3.setCell ⟨gq, 0, none⟩ (.bool true)).setCell ⟨gq, 1, none⟩ (.slice A2 0 a2)).setCell ⟨gq, 2, none⟩ (.slice (some ⟨g2, o2, none⟩) 2 b2)).setCell ⟨gq, 3, none⟩ (.slice C2 0 c2) = w4 at hbq4 hq4 hf4
          have m0 := hbq4.cell 0 rfl
          have m2 := hbq4.cell 2 rfl
          have z0 := hq4.zero
          have z1 := hq4.get (k := 1) rfl
          have hfw4 : Fr [] w w4 := hf.trans2 hf4 (by simp; omega)
          have x0 := (ha.fr0 hfw4).get HV0.out
          have x1 := (ha.fr0 hfw4).get HV1.out
          clear hbq3 hf3 hn3 hq2 hq2' hqq3 hbq4 hq4
          go_wp2_with fail
          go_quiet (fail)
          go_wp2_with fail
          refine (judged_any k0 T _ hk0 hT9').mono ?_
          rintro e w5 ⟨rfl, rfl⟩
          go_wp2_with fail
          refine (judged_any k1 T _ hk1 hT9').mono ?_
          rintro e w5 ⟨rfl, rfl⟩
          clear qc0 qc1 qc2 qc3 qd0 qd1 qd2 qd3 n0 n1 n2 n3 m0 m2 z0 z1 x0 x1 e0 j0 j1 hw3 hw4 q0
          go_wp2_with fail
          have hrw := ha.fr0 (hfw4.drewN nq)
          go_loop [14] (fun i => ∃ v : Nat, l < v ∧ v ≤ h ∧ i = .int .i64 v) (fun i => h - (intOf i).toNat)
          case atStart => exact ⟨l + 1, by omega, by omega, by go_num⟩
          case round =>
            obtain ⟨v, hv1, hv2, rfl⟩ := hrel
            by_cases hlt : v < h
            · obtain ⟨k, hkk, hkv, hkd⟩ := kind_at hk (v := v) (by omega)
              have e3 : (jud (k % 4) T != 3) = false := by
                rw [← hkd, HG.out.mid v (by omega) (by omega)]; rfl
              have z := hrw.get hkv
              clear hkv hkd
              go_wp2_with fail
              refine (judged_any k T _ hkk hT9').mono ?_
              rintro e w6 ⟨rfl, rfl⟩
              go_wp2
              go_round
              case rel => exact ⟨v + 1, by omega, by omega, by go_num⟩
              case measure => simp [intOf]; omega
            · have hvh : v = h := by omega
              subst hvh
              clear hv1 hv2 hlt
              go_wp2_with fail
              go_loop [15, 16, 17] (fun f s i => ∃ t : Nat, t ≤ kinds.length ∧ f = .int .i64 (sortTo (fun x => jud (kindOf kinds x) T) kinds.length t).1 ∧ s = .bool (sortTo (fun x => jud (kindOf kinds x) T) kinds.length t).2 ∧ i = .int .i64 ((kinds.length : Int) - 1 - t)) (fun f s i => (intOf i + 1).toNat)
              case atStart => exact ⟨0, by omega, rfl, rfl, by go_num⟩
              case round =>
                obtain ⟨t, ht, rfl, rfl, rfl⟩ := hrel
                by_cases hlt : t < kinds.length
                · obtain ⟨x, hx⟩ : ∃ x : Nat, (kinds.length : Int) - 1 - t = x := ⟨kinds.length - 1 - t, by omega⟩
                  have hxl : x < kinds.length := by omega
                  have hx0 : (0 : Int) ≤ (x : Int) := by omega
                  obtain ⟨k, hkk, hkv, hkd⟩ := kind_at hk (v := x) hxl
                  have hsu : Hid (sortTo (fun x => jud (kindOf kinds x) T) kinds.length (t + 1) = sortStep (jud (k % 4) T) x (sortTo (fun x => jud (kindOf kinds x) T) kinds.length t)) := by
                    show _ = _
                    rw [sortTo, show (kinds.length : Int) - (t + 1) = x by omega, hkd]
                  have hsb : sortBnd kinds.length (sortTo (fun x => jud (kindOf kinds x) T) kinds.length t) := sort_bnd t ht
                  rw [hx]
                  have HX := Lib.hid hx
                  clear hx
                  have z := hrw.get hkv
                  generalize sortTo (fun x => jud (kindOf kinds x) T) kinds.length t = st at hsu hsb ⊢
                  obtain ⟨f, s⟩ := st
                  obtain ⟨hf0, hf1⟩ := hsb
                  simp only at hf0 hf1
                  clear hkv hkd
                  obtain ⟨j, hj⟩ : ∃ j, jud (k % 4) T = j := ⟨_, rfl⟩
                  have hj3 : j = 1 ∨ j = 2 ∨ j = 3 := by rw [← hj]; unfold jud; (repeat' split) <;> omega
                  rw [hj] at hsu
                  have HJ := Lib.hid hj
                  clear hj
                  rcases hj3 with rfl | rfl | rfl
                  · have hsu' := hsu.out
                    simp [sortStep] at hsu'
                    have HS := Lib.hid hsu'
                    clear hsu hsu'
                    cases s
                    all_goals
                      go_wp2_with fail
                      refine (judged_any k T _ hkk hT9').mono ?_
                      rw [HJ.out]
                      rintro e w6 ⟨rfl, rfl⟩
                      go_wp2
                      go_round
                      case rel => 
                        have hm := HX.out
                        refine ⟨t + 1, by omega, ?_, ?_, by first | go_num | (congr 1; omega)⟩
                        · rw [HS.out]
                        · rw [HS.out]
                      case measure => simp [intOf] <;> omega
                  · by_cases hfx : f = (x : Int) + 1
                    · have b : (f == (x : Int) + 1) = true := by simp [hfx]
                      have hsu' := hsu.out
                      simp [sortStep, hfx] at hsu'
                      have HS := Lib.hid hsu'
                      clear hsu hsu' hfx
                      cases s
                      all_goals
                        go_wp2_with fail
                        refine (judged_any k T _ hkk hT9').mono ?_
                        rw [HJ.out]
                        rintro e w6 ⟨rfl, rfl⟩
                        go_wp2
                        go_round
                        case rel => 
                          have hm := HX.out
                          refine ⟨t + 1, by omega, ?_, ?_, by first | go_num | (congr 1; omega)⟩
                          · rw [HS.out]
                          · rw [HS.out]
                        case measure => simp [intOf] <;> omega
                    · have b : (f == (x : Int) + 1) = false := by simp [hfx]
                      have hsu' := hsu.out
                      simp [sortStep, hfx] at hsu'
                      have HS := Lib.hid hsu'
                      clear hsu hsu' hfx
                      cases s
                      all_goals
                        go_wp2_with fail
                        refine (judged_any k T _ hkk hT9').mono ?_
                        rw [HJ.out]
                        rintro e w6 ⟨rfl, rfl⟩
                        go_wp2
                        go_round
                        case rel => 
                          have hm := HX.out
                          refine ⟨t + 1, by omega, ?_, ?_, by first | go_num | (congr 1; omega)⟩
                          · rw [HS.out]
                          · rw [HS.out]
                        case measure => simp [intOf] <;> omega
                  · have hsu' := hsu.out
                    simp [sortStep] at hsu'
                    have HS := Lib.hid hsu'
                    clear hsu hsu'
                    cases s
                    all_goals
                      go_wp2_with fail
                      refine (judged_any k T _ hkk hT9').mono ?_
                      rw [HJ.out]
                      rintro e w6 ⟨rfl, rfl⟩
                      go_wp2
                      go_round
                      case rel => 
                        have hm := HX.out
                        refine ⟨t + 1, by omega, ?_, ?_, by first | go_num | (congr 1; omega)⟩
                        · rw [HS.out]
                        · rw [HS.out]
                      case measure => simp [intOf] <;> omega
                · have htn : t = kinds.length := by omega
                  subst htn
                  have hsg := sort_good HG.out
                  have hsb : sortBnd kinds.length (sortTo (fun x => jud (kindOf kinds x) T) kinds.length kinds.length) := sort_bnd _ (Nat.le_refl _)
                  generalize sortTo (fun x => jud (kindOf kinds x) T) kinds.length kinds.length = st at hsg hsb ⊢
                  obtain ⟨f, s⟩ := st
                  obtain ⟨hf0, hf1⟩ := hsb
                  simp only at hsg hf0 hf1 ⊢
                  rw [show (kinds.length : Int) - 1 - (kinds.length : Nat) = -1 by omega]
                  cases s
                  · clear hsg
                    go_wp2_with fail
                    refine (runs_any _).mono ?_
                    rintro e w7 ⟨rfl, hf7⟩
                    go_wp2
                    go_ret
                    exact ⟨rfl, (hfw4.drewN nq).trans hf7⟩
                  · obtain ⟨e1, e2⟩ := hsg rfl
                    have b1 : ((l : Int) == f - 1) = true := by simp [e1]
                    have b2 : ((v : Int) == f) = true := by simp [e2]
                    clear e1 e2 hsg
                    go_wp2_with fail
                    refine (runs_any _).mono ?_
                    rintro e w7 ⟨rfl, hf7⟩
                    go_wp2
                    go_ret
                    exact ⟨rfl, (hfw4.drewN nq).trans hf7⟩
end Go.Proofs.Ytjpbmbonccenfaa
