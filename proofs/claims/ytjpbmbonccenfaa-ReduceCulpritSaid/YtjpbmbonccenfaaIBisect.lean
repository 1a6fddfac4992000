/- The program's Bisect. -/
import Derived.Test.YtjpbmbonccenfaaIBis
namespace Go.Proofs.Ytjpbmbonccenfaa
open Go.RowKit
set_option linter.unusedVariables false

theorem enter_do (args : Array Value) (w : World) : (callFunc 39 args).run Try.prog w = .ok (.enter 39 args) w := by
  simp [go_sem]

theorem bisI_some (ans : List Int) (T : Nat) : ∀ (t : Nat) (bs : List Bool) (kn : Int → Bool) (lo hi : Int) (u : Nat), Known kn bs → t = bs.count false + 1 → 0 ≤ lo → hi ≤ bs.length → bisI ans T t kn lo hi u ≠ none
  | 0, bs, kn, lo, hi, u, _, h, _, _ => by omega
  | t + 1, bs, kn, lo, hi, u, hk, ht, hlo, hhi => by
    simp only [bisI]
    by_cases hv : betw kn lo hi < 0
    · rw [if_pos hv]; simp
    · rw [if_neg hv]
      rcases ver ans T u 3 with _ | ⟨x, u'⟩
      · simp
      · have hb := betw_range (kn := kn) (low := lo) (high := hi) (by omega)
        have hbv := hk (betw kn lo hi).toNat (by omega)
        rw [show (((betw kn lo hi).toNat : Nat) : Int) = betw kn lo hi by omega, hb.2.2] at hbv
        have hc := count_set hbv
        refine bisI_some ans T t (bs.set (betw kn lo hi).toNat true) _ _ _ _ (known_set hk (by omega)) (by omega) ?_ ?_
        · split <;> omega
        · simp only [List.length_set]; split <;> omega
theorem bisAll_some (N T : Nat) (ans : List Int) : bisAll N T ans ≠ none := by
  unfold bisAll
  rcases ver ans T 0 3 with _ | ⟨x, u⟩
  · simp
  · by_cases hx : x = 1
    · simp only [hx, ne_eq, not_true_eq_false, if_false]
      rcases ver ans T u 3 with _ | ⟨y, u'⟩
      · simp
      · by_cases hy : y = 2
        · simp only [hy, not_true_eq_false, if_false]
          exact bisI_some ans T _ (List.replicate N false) kn0 _ _ _ (fun i hi => by simp at hi; simp [kn0, hi]) (by simp) (by omega) (by simp; omega)
        · simp [hy]
    · simp [hx]

theorem quest_end (er : Int) (u l : Nat) (kept : List Int) : endOf false [] er (decide (u < l)) kept [] = questOf [] kept (decide (er = 0 ∧ l ≤ u)) (if er ≠ 0 then er else if u < l then 8 else 0) := by
  unfold endOf questOf
  by_cases he : er = 0
  · by_cases hu : u < l
    · have h1 : ¬ l ≤ u := by omega
      simp [he, hu]
    · have h1 : l ≤ u := by omega
      simp [he, hu, h1]
  · simp [he]

set_option maxHeartbeats 1600000 in
theorem bisect_main (n times : Int) (A : Option Addr) (c : Nat) (ans : List Int) (w : World) (ha : Rd w (.int .u8) A c ans) (h2 : 2 ≤ n) (h3 : n ≤ 256) (h4 : ans.length ≤ 4096) :
    Calls Try.prog 10 #[.int .i64 n, .int .i64 times, .slice A ans.length c] w (RetQstF w.heap.size w (bisect n times ans)) := by
  have hmf : ∀ (fn : Fn) (first cap : Array Value) (w : World), (Instr.makeFunc fn first cap).run Try.prog w = .ok (.func fn first cap) w := fun _ _ _ _ => rfl
  obtain ⟨N, rfl⟩ := Int.eq_ofNat_of_zero_le (show 0 ≤ n by omega)
  have hfin := Lib.hid (bisect_fin (n := N) (times := times) (ans := ans) rfl h2 h3 h4)
  go_enter Try.func10, Try.ntmps10
  go_wp2_with fail
  have hsz : ((((w.alloc (Obj.cells #[Value.int IntKind.i64 times] 3)).alloc (Obj.cells #[Value.bool false, Value.slice none 0 0, Value.slice none 0 0, Value.slice none 0 0] 26)).alloc (Obj.cells #[Value.int IntKind.i64 0] 3)).alloc (Obj.cells #[Value.int IntKind.i64 ((N : Int) - 1)] 3)).heap.size = w.heap.size + 4 := by simp
  have hfW : Fr [] w ((((w.alloc (Obj.cells #[Value.int IntKind.i64 times] 3)).alloc (Obj.cells #[Value.bool false, Value.slice none 0 0, Value.slice none 0 0, Value.slice none 0 0] 26)).alloc (Obj.cells #[Value.int IntKind.i64 0] 3)).alloc (Obj.cells #[Value.int IntKind.i64 ((N : Int) - 1)] 3)) := (by repeat (first | exact Fr.refl _ _ | assumption | apply Fr.drewN | apply Fr.drew | apply Fr.alloc | refine Fr.setCell ?_ (by simp) _))
  have hbt := ((((Blk.new w 3 #[Value.int IntKind.i64 times] _ rfl).alloc (Obj.cells #[Value.bool false, Value.slice none 0 0, Value.slice none 0 0, Value.slice none 0 0] 26)).alloc (Obj.cells #[Value.int IntKind.i64 0] 3)).alloc (Obj.cells #[Value.int IntKind.i64 ((N : Int) - 1)] 3))
  have hbg := (((Blk.new (w.alloc (Obj.cells #[Value.int IntKind.i64 times] 3)) 26 #[Value.bool false, Value.slice none 0 0, Value.slice none 0 0, Value.slice none 0 0] (w.heap.size + 1) (by simp)).alloc (Obj.cells #[Value.int IntKind.i64 0] 3)).alloc (Obj.cells #[Value.int IntKind.i64 ((N : Int) - 1)] 3))
  have hbl := ((Blk.new ((w.alloc (Obj.cells #[Value.int IntKind.i64 times] 3)).alloc (Obj.cells #[Value.bool false, Value.slice none 0 0, Value.slice none 0 0, Value.slice none 0 0] 26)) 3 #[Value.int IntKind.i64 0] (w.heap.size + 1 + 1) (by simp)).alloc (Obj.cells #[Value.int IntKind.i64 ((N : Int) - 1)] 3))
  have hbh := (Blk.new (((w.alloc (Obj.cells #[Value.int IntKind.i64 times] 3)).alloc (Obj.cells #[Value.bool false, Value.slice none 0 0, Value.slice none 0 0, Value.slice none 0 0] 26)).alloc (Obj.cells #[Value.int IntKind.i64 0] 3)) 3 #[Value.int IntKind.i64 ((N : Int) - 1)] (w.heap.size + 1 + 1 + 1) (by simp))
  have haW := ha.fr0 hfW
  generalize ((((w.alloc (Obj.cells #[Value.int IntKind.i64 times] 3)).alloc (Obj.cells #[Value.bool false, Value.slice none 0 0, Value.slice none 0 0, Value.slice none 0 0] 26)).alloc (Obj.cells #[Value.int IntKind.i64 0] 3)).alloc (Obj.cells #[Value.int IntKind.i64 ((N : Int) - 1)] 3)) = W at hsz hfW hbt hbg hbl hbh haW ⊢
  have HS := Lib.hid hsz
  have hsz1 : W.heap.size ≤ w.heap.size + 4 := by omega
  have hsz2 : w.heap.size + 4 ≤ W.heap.size := by omega
  clear hsz
  have hS : ∀ x ∈ [w.heap.size + 1 + 1, w.heap.size + 1 + 1 + 1], x < W.heap.size := by simp; omega
  have hdo : ∀ w1, AtDo W w1 ans → Calls Try.prog 39 (#[.pointer (some ⟨W.heap.size + 1 + 1, 0, none⟩)] ++ #[.pointer (some ⟨w.heap.size, 0, none⟩), .pointer (some ⟨w.heap.size + 1 + 1, 0, none⟩), .pointer (some ⟨w.heap.size + 1 + 1 + 1, 0, none⟩)]) w1
      (BisDo w1 (W.heap.size + 1 + 1) (W.heap.size + 1) (w.heap.size + 1 + 1) (w.heap.size + 1 + 1 + 1) ans (bisAll N (timesOf times).toNat ans)) := fun w1 hat =>
    bisdo_any _ _ _ _ _ N times ans w1 hat.srch (hbt.fr hat.fr (by simp)) (hbl.fr hat.fr (by simp)) (hbh.fr hat.fr (by simp)) (by omega) (by omega) (by omega)
  rcases ho : bisAll N (timesOf times).toNat ans with _ | (v | ⟨er, lo, hi, u⟩)
  · exact absurd ho (bisAll_some _ _ _)
  · have HO := Lib.hid ho
    rw [ho] at hdo
    clear ho
    refine (run_ask W A c ans 39 _ _ hS _ [v] haW h4 enter_do hdo).mono ?_
    rintro e w2 ⟨A2, c2, rfl, hr2, hf2, hnw, wd, ⟨lo, hi, hdl, hdh⟩, hfd⟩
    clear hdo
    have hl2 := hdl.fr hfd (by simp; omega)
    have hh2 := hdh.fr hfd (by simp; omega)
    have ql := hl2.cell 0 rfl
    have qh := hh2.cell 0 rfl
    have hg2 := hbg.fr hf2 (by simp)
    go_wp2_with fail
    refine (quest_any A2 _ c2 2 [v] [lo, hi] false 0 _ (hr2.alloc _) (Rd.two _ _ _ _ _) (by simp) w.heap.size (Nat.le_trans (Nat.le_trans hfW.size hf2.size) (by simp)) (hnw.mono hfW.size)).mono ?_
    rintro e w3 ⟨vq, rfl, hf3, A1, a1, B1, b1, C1, c1, rfl, hq1, hq2, hq3⟩
    have hB3 := (hg2.alloc (Obj.cells #[Value.int IntKind.i64 lo, Value.int IntKind.i64 hi] 3)).fr hf3 (by simp)
    have hf03 : Fr [] w w3 := ((hfW.trans2 hf2 (by simp; omega)).alloc _).trans hf3
    have qc0 := hB3.cell 0 rfl
    have qc1 := hB3.cell 1 rfl
    have qc2 := hB3.cell 2 rfl
    have qc3 := hB3.cell 3 rfl
    have qd0 := hB3.frozen 0
    have qd1 := hB3.frozen 1
    have qd2 := hB3.frozen 2
    have qd3 := hB3.frozen 3
    go_wp2
    refine bodyPost_ret (results_qst rfl _ _ (w.heap.size + 1) rfl (hB3.four _ _ _ _)) rfl ?_
    rw [hfin.out, HO.out, show finB ans (some (.inl v)) = questOf [v] [lo, hi] false 0 by simp [finB, questOf]]
    exact qstF_ret (by omega) hf03 hB3 hq1 hq2 hq3
  · have HO := Lib.hid ho
    rw [ho] at hdo
    clear ho
    refine (run_end W A c ans 39 _ _ hS _ er u haW h4 enter_do hdo).mono ?_
    rintro e w2 ⟨rfl, hf2, wd, ⟨hdl, hdh⟩, hfd⟩
    clear hdo
    have hl2 := hdl.fr hfd (by simp; omega)
    have hh2 := hdh.fr hfd (by simp; omega)
    have ql := hl2.cell 0 rfl
    have qh := hh2.cell 0 rfl
    have hg2 := hbg.fr hf2 (by simp)
    generalize hdn : decide (er = 0 ∧ ans.length ≤ u) = dn
    generalize her : (if er ≠ 0 then er else if u < ans.length then 8 else 0) = er2
    have HD := Lib.hid hdn
    have HE := Lib.hid her
    clear hdn her
    go_wp2_with fail
    refine (quest_any none _ 0 2 [] [lo, hi] dn er2 _ (Rd.nil_ _ _) (Rd.two _ _ _ _ _) (by simp) w.heap.size (Nat.le_trans (Nat.le_trans hfW.size hf2.size) (by simp)) (Nw.none_ _)).mono ?_
    rintro e w3 ⟨vq, rfl, hf3, A1, a1, B1, b1, C1, c1, rfl, hq1, hq2, hq3⟩
    have hB3 := (hg2.alloc (Obj.cells #[Value.int IntKind.i64 lo, Value.int IntKind.i64 hi] 3)).fr hf3 (by simp)
    have hf03 : Fr [] w w3 := ((hfW.trans2 hf2 (by simp; omega)).alloc _).trans hf3
    have qc0 := hB3.cell 0 rfl
    have qc1 := hB3.cell 1 rfl
    have qc2 := hB3.cell 2 rfl
    have qc3 := hB3.cell 3 rfl
    have qd0 := hB3.frozen 0
    have qd1 := hB3.frozen 1
    have qd2 := hB3.frozen 2
    have qd3 := hB3.frozen 3
    go_wp2
    refine bodyPost_ret (results_qst rfl _ _ (w.heap.size + 1) rfl (hB3.four _ _ _ _)) rfl ?_
    rw [hfin.out, HO.out, show finB ans (some (.inr (er, lo, hi, u))) = questOf [] [lo, hi] dn er2 by
      rw [← HD.out, ← HE.out]
      simp only [finB]
      exact quest_end er u ans.length [lo, hi]]
    exact qstF_ret (by omega) hf03 hB3 hq1 hq2 hq3

set_option maxHeartbeats 1600000 in
theorem bisect_any (n times : Int) (A : Option Addr) (c : Nat) (ans : List Int) (w : World) (ha : Rd w (.int .u8) A c ans) :
    Calls Try.prog 10 #[.int .i64 n, .int .i64 times, .slice A ans.length c] w (RetQstF w.heap.size w (bisect n times ans)) := by
  have hn : ∀ W : World, Rd W (.int .i64) none 0 ([] : List Int) ∧ Nw w.heap.size none := fun W => ⟨Rd.nil_ W _, Nw.none_ _⟩
  have hmf : ∀ (fn : Fn) (first cap : Array Value) (w : World), (Instr.makeFunc fn first cap).run Try.prog w = .ok (.func fn first cap) w := fun _ _ _ _ => rfl
  by_cases h : n < 2
  · go_enter Try.func10, Try.ntmps10
    go_wp2
    refine bodyPost_ret (v := .tuple #[.agg #[.bool false, .slice none 0 0, .slice none 0 0, .slice none 0 0], .int .i64 1]) (by simp [results, Try.results10, go_sem]) rfl ?_
    rw [show bisect n times ans = (qNone, 1) by simp [bisect, h]]
    exact ⟨_, rfl, (by repeat (first | exact Fr.refl _ _ | assumption | apply Fr.drewN | apply Fr.drew | apply Fr.alloc | refine Fr.setCell ?_ (by simp) _)), none, 0, none, 0, none, 0, rfl, hn _, hn _, hn _⟩
  · by_cases h3 : 256 < n
    · go_enter Try.func10, Try.ntmps10
      go_wp2
      refine bodyPost_ret (v := .tuple #[.agg #[.bool false, .slice none 0 0, .slice none 0 0, .slice none 0 0], .int .i64 3]) (by simp [results, Try.results10, go_sem]) rfl ?_
      rw [show bisect n times ans = (qNone, 3) by simp [bisect, h, h3]]
      exact ⟨_, rfl, (by repeat (first | exact Fr.refl _ _ | assumption | apply Fr.drewN | apply Fr.drew | apply Fr.alloc | refine Fr.setCell ?_ (by simp) _)), none, 0, none, 0, none, 0, rfl, hn _, hn _, hn _⟩
    · by_cases h4 : 4096 < ans.length
      · have h3' : n ≤ 256 := by omega
        have h2' : 2 ≤ n := by omega
        have hbi := Lib.hid (show bisect n times ans = (qNone, 3) by simp [bisect, h, h4])
        clear h h3
        go_enter Try.func10, Try.ntmps10
        go_wp2_with fail
        refine (run_limit _ A c ans _ (ha.fr0 (by repeat (first | exact Fr.refl _ _ | assumption | apply Fr.drewN | apply Fr.drew | apply Fr.alloc | refine Fr.setCell ?_ (by simp) _))) h4).mono ?_
        rintro e w2 ⟨rfl, hf2⟩
        have hg2 := (((Blk.new (w.alloc (Obj.cells #[Value.int IntKind.i64 times] 3)) 26 #[Value.bool false, Value.slice none 0 0, Value.slice none 0 0, Value.slice none 0 0] (w.heap.size + 1) (by simp)).alloc (Obj.cells #[Value.int IntKind.i64 0] 3)).alloc (Obj.cells #[Value.int IntKind.i64 (n - 1)] 3)).fr hf2 (by simp)
        have hl2 := ((Blk.new ((w.alloc (Obj.cells #[Value.int IntKind.i64 times] 3)).alloc (Obj.cells #[Value.bool false, Value.slice none 0 0, Value.slice none 0 0, Value.slice none 0 0] 26)) 3 #[Value.int IntKind.i64 0] (w.heap.size + 1 + 1) (by simp)).alloc (Obj.cells #[Value.int IntKind.i64 (n - 1)] 3)).fr hf2 (by simp)
        have hh2 := (Blk.new (((w.alloc (Obj.cells #[Value.int IntKind.i64 times] 3)).alloc (Obj.cells #[Value.bool false, Value.slice none 0 0, Value.slice none 0 0, Value.slice none 0 0] 26)).alloc (Obj.cells #[Value.int IntKind.i64 0] 3)) 3 #[Value.int IntKind.i64 (n - 1)] (w.heap.size + 1 + 1 + 1) (by simp)).fr hf2 (by simp)
        have hf02 : Fr [] w w2 := Fr.trans (b := (((w.alloc (Obj.cells #[Value.int IntKind.i64 times] 3)).alloc (Obj.cells #[Value.bool false, Value.slice none 0 0, Value.slice none 0 0, Value.slice none 0 0] 26)).alloc (Obj.cells #[Value.int IntKind.i64 0] 3)).alloc (Obj.cells #[Value.int IntKind.i64 (n - 1)] 3)) (by repeat (first | exact Fr.refl _ _ | assumption | apply Fr.drewN | apply Fr.drew | apply Fr.alloc | refine Fr.setCell ?_ (by simp) _)) hf2
        have ql := hl2.cell 0 rfl
        have qh := hh2.cell 0 rfl
        go_wp2_with fail
        refine (quest_any none _ 0 2 [] [0, n - 1] false 3 _ (Rd.nil_ _ _) (Rd.two _ _ _ _ _) (by simp) w.heap.size (Nat.le_trans hf02.size (by simp)) (Nw.none_ _)).mono ?_
        rintro e w3 ⟨vq, rfl, hf3, A1, a1, B1, b1, C1, c1, rfl, hq1, hq2, hq3⟩
        have hB3 := (hg2.alloc (Obj.cells #[Value.int IntKind.i64 0, Value.int IntKind.i64 (n - 1)] 3)).fr hf3 (by simp)
        have hf03 : Fr [] w w3 := (hf02.alloc _).trans hf3
        have qc0 := hB3.cell 0 rfl
        have qc1 := hB3.cell 1 rfl
        have qc2 := hB3.cell 2 rfl
        have qc3 := hB3.cell 3 rfl
        have qd0 := hB3.frozen 0
        have qd1 := hB3.frozen 1
        have qd2 := hB3.frozen 2
        have qd3 := hB3.frozen 3
        go_wp2
        refine bodyPost_ret (results_qst rfl _ _ (w.heap.size + 1) rfl (hB3.four _ _ _ _)) rfl ?_
        rw [hbi.out, show (qNone, (3 : Int)) = questOf [] [0, n - 1] false 3 by simp [questOf]]
        exact qstF_ret (by omega) hf03 hB3 hq1 hq2 hq3
      · exact bisect_main n times A c ans w ha (by omega) (by omega) (by omega)
end Go.Proofs.Ytjpbmbonccenfaa
