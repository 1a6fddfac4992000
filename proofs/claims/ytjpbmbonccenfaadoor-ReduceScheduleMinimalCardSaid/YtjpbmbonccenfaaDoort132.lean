/- Texts of this seat, one behind the other: RChg, IChg, IChg2. -/
import Derived.Test.YtjpbmbonccenfaaDoort131
import Derived.Test.YtjpbmbonccenfaaDoort116
import Derived.Test.YtjpbmbonccenfaaDoort124
/- Changes of the reference. -/
namespace Go.Proofs.YtjpbmbonccenfaaDoor
open Go.RowKit
set_option linter.unusedVariables false

theorem PKn.play {B : Nat} {w : World} {bp used : Nat} {ans : List Int} {kn : Kn} {stop : Bool} {want : List Int} (h : PKn B w bp ans used kn stop want) : ∃ S T, Play w bp ans used S T stop want := by
  obtain ⟨A, c, S, T, D, d, rows, hh, hr, hna, hrD, hsD, _⟩ := h.ex
  have hb := h.base
  refine ⟨S, T, A, c, D, d, hh, hr, fun h0 a ha => by have := hna h0 a ha; omega, hrD, fun h0 a ha => ?_⟩
  rcases hsD a ha with h1 | ⟨cs, fz, h1⟩
  · omega
  · rintro e
    rw [e, show w.heap[bp]? = _ from hh] at h1
    injection h1 with h1
    injection h1 with _ h1
    revert h1
    decide
theorem PKn.stopCell {B : Nat} {w : World} {bp used : Nat} {ans : List Int} {kn : Kn} {stop : Bool} {want : List Int} (h : PKn B w bp ans used kn stop want) : w.cell? ⟨bp, 4, none⟩ = some (.bool stop) := by
  obtain ⟨A, c, S, T, D, d, rows, hh, _⟩ := h.ex
  exact hh.cell 4 rfl
theorem FrP.blkQ {B : Nat} {w w' : World} {g : Nat} {cs : Array Value} (h : Blk w g 34 cs) (hf : FrP B w w') : Blk w' g 34 cs := hf.blk h (.inr (by decide))
/-- begin: a new play, of which nothing is known. -/
def BeginKn (B : Nat) (w : World) (ans : List Int) (e : Ending) (w' : World) : Prop :=
  e = .returned (.tuple #[.pointer (some ⟨w.heap.size, 0, none⟩), .bool (decide (ans.length ≤ 4096))]) ∧ Fr [] w w' ∧ PKn B w' w.heap.size ans 0 [] false []
theorem beginK_any (B : Nat) (A : Option Addr) (c : Nat) (ans : List Int) (w : World) (ha : Rd w (.int .u8) A c ans) (hB : B ≤ w.heap.size) (hna : 0 < ans.length → ∀ x, A = some x → x.block < B) :
    Calls Tryd.prog 76 #[.slice A ans.length c] w (BeginKn B w ans) := by
  go_enter Tryd.func76, Tryd.ntmps76
  go_wp2
  go_ret2
  refine ⟨?_, (Fr.refl _ _).alloc _, ⟨A, c, .slice none 0 0, .slice none 0 0, none, 0, [], heap_alloc_new _ _, ha.alloc _, hna, Rd.nil_ _ _, Stay.none_ _ _, World.ownsRow_nil _ _ _ _, World.ownsRow_nil _ _ _ _, fun k p hp => by simp at hp⟩, hB, Nat.zero_le _⟩
  have : decide ((ans.length : Int) ≤ 4096) = decide (ans.length ≤ 4096) := by rw [decide_eq_decide]; omega
  simp [this]
theorem endK_any (B bp : Nat) (ans : List Int) (used : Nat) (kn : Kn) (stop : Bool) (want : List Int) (er : Int) (K P : Option Addr) (ck cp : Nat) (kept pass : List Int) (w : World)
    (h : PKn B w bp ans used kn stop want) (hk : Rd w (.int .i64) K ck kept) (hp : Rd w (.int .i64) P cp pass) :
    Calls Tryd.prog 78 #[.pointer (some ⟨bp, 0, none⟩), .int .i64 er, .slice K kept.length ck, .slice P pass.length cp] w (RetQst w (endOf stop want er (decide (used < ans.length)) kept pass)) := by
  obtain ⟨S, T, hpl⟩ := h.play
  exact end_any bp ans used S T stop want er K P ck cp kept pass w hpl hk hp
theorem PKn.drewN {B : Nat} {w : World} {bp used : Nat} {ans : List Int} {kn : Kn} {stop : Bool} {want : List Int} (h : PKn B w bp ans used kn stop want) (n : Nat) : PKn B (w.drewN n) bp ans used kn stop want := h.fr0 ((Fr.refl _ _).drewN n)
theorem askV_len {ans : List Int} {u u' : Nat} {kn kn' : Kn} {q : List Int} {v : Int} (h : askV ans u kn q = some (v, u', kn')) (hk : kn.length = u) (hu : u ≤ ans.length) : kn'.length = u' ∧ u' ≤ ans.length := by
  rcases hl : @List.lookup (List Int) Int instBEqOfDecidableEq q kn with _ | v'
  · rcases ha : ans[u]? with _ | a
    · rw [askV_ask hl ha] at h; cases h
    · rw [askV_got hl ha] at h
      simp only [Option.some.injEq, Prod.mk.injEq] at h
      obtain ⟨rfl, rfl, rfl⟩ := h
      have := (List.getElem?_eq_some_iff.1 ha).1
      simp; omega
  · rw [askV_known hl] at h
    simp only [Option.some.injEq, Prod.mk.injEq] at h
    obtain ⟨rfl, rfl, rfl⟩ := h
    exact ⟨hk, hu⟩
/-- What a search comes to when it has gone as far as it can. -/
def finT (ans : List Int) : List Int ⊕ (Res × (Nat × Kn)) → Qst × Int
  | .inl q => (⟨false, q, [], []⟩, 0)
  | .inr ((er, kept, pass), (u, _)) => endOf false [] er (decide (u < ans.length)) kept pass
theorem qOf_fin {ans : List Int} (h : ¬ 4096 < ans.length) (t : Tr (List Int) Int Res) : qOf ans t = finT ans (t.go (askS ans) (0, [])) := by
  unfold qOf finT
  rw [if_neg h]
  rfl

/-- Between two rounds. -/
def RChInv (w : World) (ans : List Int) (L : List (List Int)) (full : List Int ⊕ (Res × (Nat × Kn))) (bp : Nat) (t : Nat) (v1 v2 : Value) (wr : World) : Prop :=
  ∃ (set : List Int) (i used : Nat) (kn : Kn) (A : Option Addr) (c : Nat), v1 = .slice A set.length c ∧ v2 = .int .i64 i ∧ Rd wr (.int .i64) A c set ∧ Stay w.heap.size wr A ∧ i ≤ set.length ∧ chgM set i < t ∧ Hid (isSet L.length set = true) ∧ Hid (isClosedB L set = true) ∧
    Hid (full = (chgT L t set i).go (askS ans) (used, kn)) ∧ Hid (kn.length = used) ∧ used ≤ ans.length ∧ PKn w.heap.size wr bp ans used kn false [] ∧ Blk wr w.heap.size 34 #[.bool false, .slice none 0 0, .slice none 0 0, .slice none 0 0] ∧ FrP w.heap.size w wr

set_option maxRecDepth 100000 in
set_option maxHeartbeats 6400000 in
theorem refChanges_any (A D : Option Addr) (c d : Nat) (L : List (List Int)) (ans : List Int) (w : World) (ha : Rss w A c L) (hd : Rd w (.int .u8) D d ans) :
    Calls Tryd.prog 55 #[.slice A L.length c, .slice D ans.length d] w (RetQst w (changesOf L ans)) := by
  have hn : ∀ W : World, Rd W (.int .i64) none 0 ([] : List Int) := fun W => Rd.nil_ W _
  have hbQ : Blk (w.alloc (.cells #[.bool false, .slice none 0 0, .slice none 0 0, .slice none 0 0] 34)) w.heap.size 34 #[.bool false, .slice none 0 0, .slice none 0 0, .slice none 0 0] := Blk.new w _ _ _ rfl
  have hf0 : Fr [] w (w.alloc (.cells #[.bool false, .slice none 0 0, .slice none 0 0, .slice none 0 0] 34)) := (Fr.refl _ _).alloc _
  by_cases hk : checkNeeds L = 0
  · have hcb : (checkNeeds L != 0) = false := by simp [hk]
    obtain ⟨hLn, hl⟩ := needs_facts hk
    have HK := Lib.hid hk
    have hR0 : Hid (changesOf L ans = qOf ans (changesT L)) := by show _ = _; unfold changesOf; rw [if_neg (by simp [hk])]
    clear hk hl
    go_enter Tryd.func55, Tryd.ntmps55
    go_wp2_with fail
    refine (refCheckNeedsV_any A c L _ (ha.fr0 hf0)).mono ?_
    rintro e w1 ⟨rfl, hf1⟩
    have hF1 := hf0.trans hf1
    have hB1 := hbQ.fr hf1 (by simp)
    clear hf0 hbQ hf1
    have hz1 := hB1.lt
    go_wp2_with fail
    refine (beginK_any w.heap.size D d ans _ (hd.fr0 hF1) (by omega) (fun h0 x hx => hd.lt h0 x hx)).mono ?_
    rintro e w2 ⟨rfl, hf2, hp2⟩
    have hF2 := hF1.trans hf2
    have hB2 := hB1.fr hf2 (by simp)
    clear hF1 hB1 hf2
    by_cases h4 : 4096 < ans.length
    · have hd2 : decide (ans.length ≤ 4096) = false := by simp; omega
      have hR : Hid (changesOf L ans = (qNone, 3)) := by show _ = _; rw [hR0.out]; unfold qOf; rw [if_pos h4]
      clear h4
      have qc0 := hB2.cell 0 rfl
      have qc1 := hB2.cell 1 rfl
      have qc2 := hB2.cell 2 rfl
      have qc3 := hB2.cell 3 rfl
      have qd0 := hB2.frozen 0
      have qd1 := hB2.frozen 1
      have qd2 := hB2.frozen 2
      have qd3 := hB2.frozen 3
      go_wp2
      refine bodyPost_ret (results_qst rfl _ _ w.heap.size rfl (hB2.four _ _ _ _)) rfl ?_
      rw [hR.out]
      exact qst_ret (r := (qNone, 3)) (Nat.le_refl _) hF2 hB2 (hn _) (hn _) (hn _)
    · have hd2 : decide (ans.length ≤ 4096) = true := by simp; omega
      obtain ⟨full, hful⟩ : ∃ f, (changesT L).go (askS ans) (0, []) = f := ⟨_, rfl⟩
      have hR : Hid (changesOf L ans = finT ans full) := by show _ = _; rw [hR0.out, qOf_fin h4, hful]
      have h4' : ans.length ≤ 4096 := by omega
      have HFUL := Lib.hid hful
      clear h4 hful hR0
      go_wp2_with fail
      refine (refAll_any (L.length : Nat) _ (by omega)).mono ?_
      rintro e w3 ⟨A3, c3, rfl, hf3, ho3⟩
      rw [Int.toNat_natCast] at ho3 ⊢
      have hp3 := hp2.fr0 hf3
      have hB3 := hB2.fr hf3 (by simp)
      have hF3 : FrP w.heap.size w w3 := FrP.of_fr0 (hF2.trans hf3)
      have hr3 : Rd w3 (.int .i64) A3 c3 (upTo L.length) := (Rd.of_own ho3).2
      have hs3 : Stay w.heap.size w3 A3 := Stay.own ho3
      have hul := Lib.hid (upTo_length L.length)
      have HUS := Lib.hid (upTo_set L.length)
      have HUC := Lib.hid (upTo_closed HK.out)
      have HTD : Hid (changesT L = .ask (upTo L.length) fun v => if v = 2 then chgT L (chgM (upTo L.length) 0 + 1) (upTo L.length) 0 else .ret (7, [], [])) := rfl
      clear hp2 hB2 hf3 hF2 ho3
      generalize upTo L.length = all at *
      have hal : all.length ≤ 256 := by rw [hul.out]; omega
      go_wp2_with fail
      refine (ask_any w.heap.size _ ans 0 [] A3 c3 all _ hp3 hr3 hs3 (by omega) (by simp)).mono ?_
      rintro e w4 h4
      unfold AskPost at h4
      rcases hq : askV ans 0 [] all with _ | ⟨v, u, kn⟩
      · rw [hq] at h4
        obtain ⟨rfl, hf4, hp4⟩ := h4
        have hR2 : Hid (changesOf L ans = (⟨false, all, [], []⟩, 0)) := by
          show _ = _
          rw [hR.out, ← HFUL.out, HTD.out, Tr.go_none (askS_none hq)]
          rfl
        have hB4 := hf4.blkQ hB3
        have hF4 := hF3.trans hf4
        clear hq
        go_wp2_with fail
        refine (endK_any w.heap.size _ ans 0 [] true all 7 none none 0 0 [] [] _ hp4 (hn _) (hn _)).mono ?_
        rintro e w11 ⟨v, rfl, hf11, A4, a4, B4, b4, C4, c4, rfl, hq1, hq2, hq3⟩
        have hB11 := hB4.fr hf11 (by simp)
        have qc0 := hB11.cell 0 rfl
        have qc1 := hB11.cell 1 rfl
        have qc2 := hB11.cell 2 rfl
        have qc3 := hB11.cell 3 rfl
        have qd0 := hB11.frozen 0
        have qd1 := hB11.frozen 1
        have qd2 := hB11.frozen 2
        have qd3 := hB11.frozen 3
        go_wp2
        refine bodyPost_ret (results_qst rfl _ _ w.heap.size rfl (hB11.four _ _ _ _)) rfl ?_
        rw [hR2.out]
        exact qst_ret (Nat.le_refl _) ((hF4.fr rfl).trans hf11) hB11 hq1 hq2 hq3
      · rw [hq] at h4
        obtain ⟨rfl, hf4, hp4⟩ := h4
        have hfl : full = (if v = 2 then chgT L (chgM all 0 + 1) all 0 else .ret (7, [], [])).go (askS ans) (u, kn) := by
          rw [← HFUL.out, HTD.out, Tr.go_some (askS_some hq)]
        obtain ⟨hkl, hul2⟩ := askV_len hq rfl (Nat.zero_le _)
        have hB4 := hf4.blkQ hB3
        have hF4 := hF3.trans hf4
        have hr4 := hr3.frp hs3 hf4
        have hs4 := hs3.frp hf4
        clear hq hf4 hp3 hB3 hF3 hr3 hs3
        by_cases hv : v = 2
        · have hb2 : (v != 2) = false := by simp [hv]
          rw [if_pos hv] at hfl
          have hI : RChInv w ans L full w1.heap.size (chgM all 0 + 1) (.slice A3 all.length c3) (.int .i64 (0 : Nat)) w4 :=
            ⟨all, 0, u, kn, A3, c3, rfl, rfl, hr4, hs4, Nat.zero_le _, Nat.lt_succ_self _, HUS, HUC, hfl, hkl, hul2, hp4, hB4, hF4⟩
          clear hv hfl hkl hp4 hB4 hF4 hr4 hs4
          go_wp2_with fail
          go_loopg [9, 10] (chgM all 0 + 1) (RChInv w ans L full w1.heap.size)
          case atStart => exact hI
          case round =>
            clear hI
            obtain ⟨set, i, used, kk, A5, c5, rfl, rfl, hr5, hs5, hile, hm5, hset, hcl, hfu, hkk, hul5, hp5, hB5, hF5⟩ := hrel
            obtain ⟨t, rfl⟩ : ∃ t, gk = t + 1 := ⟨gk - 1, by omega⟩
            have hsl := (set_inR hset.out).2
            by_cases hlt : i < set.length
            · obtain ⟨b6, o6, x, rfl, hx, hc6⟩ := hr5.at_ hlt
              have hstep := chgT_ask (L := L) (t := t) hx.out
              rw [hstep] at hfu
              have HM1 := Lib.hid (chg_fail (L := L) hx.out (by omega))
              have HM2 := Lib.hid (chg_next hlt)
              have HWS := Lib.hid (wout_set L x hset.out)
              have HWC := Lib.hid (wout_closed (i := x) hcl.out)
              have hwl := wout_le L set x
              clear hstep
              go_wp2_with fail
              refine (refwithout_any A _ c c5 L set x _ (ha.fr0 (hF5.fr rfl)) hr5 HK.out hset.out hcl.out).mono ?_
              rintro e w7 ⟨A7, c7, rfl, hf7, ho7⟩
              have hp7 := hp5.fr0 hf7
              have hB7 := hB5.fr hf7 (by simp)
              have hF7 := hF5.trans (FrP.of_fr0 hf7)
              have hr7 := hr5.fr0 hf7
              have hs7 := hs5.frp (FrP.of_fr0 hf7)
              have hrx : Rd w7 (.int .i64) A7 c7 (wout L set x) := (Rd.of_own ho7).2
              have hsx : Stay w.heap.size w7 A7 := Stay.own ho7
              clear hp5 hB5 hF5 hr5 hs5 hf7 ho7 hc6
              generalize hwo : wout L set x = wo at *
              have HWO := Lib.hid hwo
              clear hwo
              go_wp2_with fail
              refine (ask_any w.heap.size _ ans used kk A7 c7 wo _ hp7 hrx hsx (by omega) (by rw [hkk.out]; omega)).mono ?_
              rintro e w8 h8
              unfold AskPost at h8
              rcases hq : askV ans used kk wo with _ | ⟨v2, u2, kn2⟩
              · rw [hq] at h8
                obtain ⟨rfl, hf8, hp8⟩ := h8
                have hR2 : Hid (changesOf L ans = (⟨false, wo, [], []⟩, 0)) := by
                  show _ = _
                  rw [hR.out, hfu.out, Tr.go_none (askS_none hq)]
                  rfl
                have hB8 := hf8.blkQ hB7
                have hF8 := hF7.trans hf8
                have s4 := hp8.stopCell
                clear hq
                go_wp2_with fail
                refine (endK_any w.heap.size _ ans used kk true wo 0 none none 0 0 [] [] _ hp8 (hn _) (hn _)).mono ?_
                rintro e w11 ⟨v, rfl, hf11, A4, a4, B4, b4, C4, c4, rfl, hq1, hq2, hq3⟩
                have hB11 := hB8.fr hf11 (by simp)
                have qc0 := hB11.cell 0 rfl
                have qc1 := hB11.cell 1 rfl
                have qc2 := hB11.cell 2 rfl
                have qc3 := hB11.cell 3 rfl
                have qd0 := hB11.frozen 0
                have qd1 := hB11.frozen 1
                have qd2 := hB11.frozen 2
                have qd3 := hB11.frozen 3
                go_wp2
                refine bodyPost_ret (results_qst rfl _ _ w.heap.size rfl (hB11.four _ _ _ _)) rfl ?_
                rw [hR2.out]
                exact qst_ret (Nat.le_refl _) ((hF8.fr rfl).trans hf11) hB11 hq1 hq2 hq3
              · rw [hq] at h8
                obtain ⟨rfl, hf8, hp8⟩ := h8
                have hfl : full = (if v2 = 2 then chgT L t wo 0 else chgT L t set (i + 1)).go (askS ans) (u2, kn2) := by
                  rw [hfu.out, Tr.go_some (askS_some hq)]
                obtain ⟨hkl2, hul3⟩ := askV_len hq hkk.out hul5
                have hB8 := hf8.blkQ hB7
                have hF8 := hF7.trans hf8
                have s4 := hp8.stopCell
                have hr8 := hr7.frp hs7 hf8
                have hs8 := hs7.frp hf8
                have hrx8 := hrx.frp hsx hf8
                have hsx8 := hsx.frp hf8
                clear hq hf8 hp7 hB7 hF7 hr7 hs7 hrx hsx hfu hkk
                have HKL2 := Lib.hid hkl2
                clear hkl2
                by_cases hv2 : v2 = 2
                · have hb3 : (v2 == 2) = true := by simp [hv2]
                  rw [if_pos hv2] at hfl
                  have HFL := Lib.hid hfl
                  clear hfl hv2
                  go_wp2_with fail
                  go_roundg t
                  case measure => omega
                  case rel => exact ⟨wo, 0, u2, kn2, A7, c7, rfl, by go_num, hrx8, hsx8, Nat.zero_le _, by have := HM1.out; omega, HWS, HWC, HFL.out, HKL2, hul3, hp8, hB8, hF8⟩
                · have hb3 : (v2 == 2) = false := by simpa using hv2
                  rw [if_neg hv2] at hfl
                  have HFL := Lib.hid hfl
                  clear hfl hv2
                  go_wp2_with fail
                  go_roundg t
                  case measure => omega
                  case rel => exact ⟨set, i + 1, u2, kn2, _, c5, rfl, by go_num, hr8, hs8, by omega, by have := HM2.out; omega, hset, hcl, HFL.out, HKL2, hul3, hp8, hB8, hF8⟩
            · have hR2 : Hid (changesOf L ans = endOf false [] 0 (decide (used < ans.length)) set []) := by
                show _ = _
                rw [hR.out, hfu.out, chgT_end hlt]
                rfl
              clear hfu
              go_wp2_with fail
              refine (endK_any w.heap.size _ ans used kk false [] 0 A5 none c5 0 set [] _ hp5 hr5 (hn _)).mono ?_
              rintro e w11 ⟨v, rfl, hf11, A4, a4, B4, b4, C4, c4, rfl, hq1, hq2, hq3⟩
              have hB11 := hB5.fr hf11 (by simp)
              have qc0 := hB11.cell 0 rfl
              have qc1 := hB11.cell 1 rfl
              have qc2 := hB11.cell 2 rfl
              have qc3 := hB11.cell 3 rfl
              have qd0 := hB11.frozen 0
              have qd1 := hB11.frozen 1
              have qd2 := hB11.frozen 2
              have qd3 := hB11.frozen 3
              go_wp2
              refine bodyPost_ret (results_qst rfl _ _ w.heap.size rfl (hB11.four _ _ _ _)) rfl ?_
              rw [hR2.out]
              exact qst_ret (Nat.le_refl _) ((hF5.fr rfl).trans hf11) hB11 hq1 hq2 hq3
        · have hb2 : (v != 2) = true := by simpa using hv
          rw [if_neg hv] at hfl
          have hR2 : Hid (changesOf L ans = endOf false [] 7 (decide (u < ans.length)) [] []) := by
            show _ = _
            rw [hR.out, hfl]
            rfl
          clear hv hfl hkl
          go_wp2_with fail
          refine (endK_any w.heap.size _ ans u kn false [] 7 none none 0 0 [] [] _ hp4 (hn _) (hn _)).mono ?_
          rintro e w11 ⟨v, rfl, hf11, A4, a4, B4, b4, C4, c4, rfl, hq1, hq2, hq3⟩
          have hB11 := hB4.fr hf11 (by simp)
          have qc0 := hB11.cell 0 rfl
          have qc1 := hB11.cell 1 rfl
          have qc2 := hB11.cell 2 rfl
          have qc3 := hB11.cell 3 rfl
          have qd0 := hB11.frozen 0
          have qd1 := hB11.frozen 1
          have qd2 := hB11.frozen 2
          have qd3 := hB11.frozen 3
          go_wp2
          refine bodyPost_ret (results_qst rfl _ _ w.heap.size rfl (hB11.four _ _ _ _)) rfl ?_
          rw [hR2.out]
          exact qst_ret (Nat.le_refl _) ((hF4.fr rfl).trans hf11) hB11 hq1 hq2 hq3
  · have hcb : (checkNeeds L != 0) = true := by simpa using hk
    have hR : Hid (changesOf L ans = (qNone, checkNeeds L)) := by show _ = _; unfold changesOf; rw [if_pos hk]
    clear hk
    go_enter Tryd.func55, Tryd.ntmps55
    go_wp2_with fail
    refine (refCheckNeedsV_any A c L _ (ha.fr0 hf0)).mono ?_
    rintro e w1 ⟨rfl, hf1⟩
    have hB1 := hbQ.fr hf1 (by simp)
    have qc0 := hB1.cell 0 rfl
    have qc1 := hB1.cell 1 rfl
    have qc2 := hB1.cell 2 rfl
    have qc3 := hB1.cell 3 rfl
    have qd0 := hB1.frozen 0
    have qd1 := hB1.frozen 1
    have qd2 := hB1.frozen 2
    have qd3 := hB1.frozen 3
    go_wp2
    refine bodyPost_ret (results_qst rfl _ _ w.heap.size rfl (hB1.four _ _ _ _)) rfl ?_
    rw [hR.out]
    exact qst_ret (r := (qNone, checkNeeds L)) (Nat.le_refl _) (hf0.trans hf1) hB1 (hn _) (hn _) (hn _)
end Go.Proofs.YtjpbmbonccenfaaDoor

/- Changes of the program: the function that run is handed. -/
namespace Go.Proofs.YtjpbmbonccenfaaDoor
open Go.RowKit
set_option linter.unusedVariables false

theorem reducedW_any (A B : Option Addr) (c d : Nat) (L : List (List Int)) (set : List Int) (i : Nat) (w : World) (ha : Rss w A c L) (hb : Rd w (.int .i64) B d set) (hL : ∀ l ∈ L, InR L.length l) (hs : InR L.length set)
    (hn : L.length ≤ 1000000) (hi : i < L.length) (hsl : set.length ≤ 1000000) :
    Calls Tryd.prog 96 #[.slice A L.length c, .slice B set.length d, .int .i64 (i : Nat)] w (RetN w 3 (wout L set i)) :=
  (reduced_any A B c d L set i w ha hb hL hs hn hi hsl).mono fun e w' ⟨gs, _, h2, h3⟩ => by rw [← wout_of h2]; exact h3
/-- What the function that run is handed has done. -/
def SetDo (w1 : World) (s km bc h0 h1 : Nat) (ans : List Int) (r : List Int ⊕ (Res × (Nat × Kn))) (e : Ending) (w' : World) : Prop :=
  match r with
  | .inl q => DoAsk w1 s km [bc] (fun W => ∃ cd, CandAt W bc (Out h0 h1) cd ∧ cd.length ≤ 256) q e w'
  | .inr ((er, kept, _), (u, _)) => DoEnd w1 s km ans [bc] (fun W => ∃ cd, CandAt W bc (Out h0 h1) cd ∧ cd.length ≤ 256 ∧ (er = 0 → cd = kept)) er u e w'
theorem SK.farS {w : World} {s km used b n c : Nat} {A : Option Addr} {ans : List Int} {kn : Kn} {t : TypeId} (h : SK w s km ans used kn) (hb : Blk w b t #[.slice A n c]) (hne : s ≠ b) (hkm : km ≠ b) (u : Value) : SK (w.setCell ⟨b, 0, none⟩ u) s km ans used kn :=
  ⟨h.srch.farS hb hne u, h.map.fr ((Fr.refl [b] w).setCell (.inl (by simp)) u) (by simpa using hkm), h.ne, h.le⟩
theorem SK.drewN {w : World} {s km used : Nat} {ans : List Int} {kn : Kn} (h : SK w s km ans used kn) (n : Nat) : SK (w.drewN n) s km ans used kn := h.fr0 ((Fr.refl _ _).drewN n)
theorem SK.lt {w : World} {s km used : Nat} {ans : List Int} {kn : Kn} (h : SK w s km ans used kn) : s < w.heap.size := by
  obtain ⟨A, c, hb, _⟩ := h.srch.ex
  exact hb.lt
theorem i64_of {n : Nat} {q : List Int} (h : isSet n q = true) (hn : n ≤ 1000000) : I64 q := fun x hx => by
  have := (isSet_iff.1 h).1 x hx
  omega
/-- Between two rounds. -/
def IChInv (w0 w1 : World) (ans : List Int) (L : List (List Int)) (full : List Int ⊕ (Res × (Nat × Kn))) (s km bc h0 h1 : Nat) (t : Nat) (v : Value) (wr : World) : Prop :=
  ∃ (set : List Int) (i used : Nat) (kn : Kn), v = .int .i64 i ∧ i ≤ set.length ∧ chgM set i < t ∧ Hid (isSet L.length set = true) ∧ Hid (isClosedB L set = true) ∧
    Hid (full = (chgT L t set i).go (askS ans) (used, kn)) ∧ SK wr s km ans used kn ∧ CandAt wr bc (Out h0 h1) set ∧ Fr [s, km, bc] w1 wr

set_option maxRecDepth 100000 in
set_option maxHeartbeats 6400000 in
theorem chgdo_any (s km bn bc h0 : Nat) (ans : List Int) (w0 w1 : World) (A0 : Option Addr) (c0 : Nat) (L : List (List Int)) (ha : Rss w0 A0 c0 L) (hk : checkNeeds L = 0) (hw0 : Fr [] w0 w1) (htab : Tab w0)
    (hB : w0.heap.size ≤ bc) (hbh : bc < h0) (hbnh : bn < h0) (hnc : bn ≠ bc) (hs0 : h0 < km) (hs1 : km < s) (hs2 : s < w1.heap.size) (hsk : SK w1 s km ans 0 []) (hbn : Blk w1 bn 24 #[.slice A0 L.length c0])
    (hbc : CandAt w1 bc (Out h0 w1.heap.size) (upTo L.length)) :
    Calls Tryd.prog 95 #[.pointer (some ⟨s, 0, none⟩), .pointer (some ⟨bc, 0, none⟩), .pointer (some ⟨bn, 0, none⟩)] w1 (SetDo w1 s km bc h0 w1.heap.size ans ((changesT L).go (askS ans) (0, []))) := by
  obtain ⟨hLn, hl⟩ := needs_facts hk
  have HI : Hid (∀ l ∈ L, InR L.length l) := fun l h => (set_inR (hl l h)).1
  have HK := Lib.hid hk
  have hul := Lib.hid (upTo_length L.length)
  have HUS := Lib.hid (upTo_set L.length)
  have HUC := Lib.hid (upTo_closed HK.out)
  have HTD : Hid (changesT L = .ask (upTo L.length) fun v => if v = 2 then chgT L (chgM (upTo L.length) 0 + 1) (upTo L.length) 0 else .ret (7, [], [])) := rfl
  clear hl hk
  generalize upTo L.length = all at *
  have hal : all.length ≤ 256 := by rw [hul.out]; omega
  obtain ⟨A1, c1, hb1, hr1, hn1⟩ := id hbc
  have k0 := hb1.cell 0 rfl
  obtain ⟨full, hful⟩ : ∃ f, (changesT L).go (askS ans) (0, []) = f := ⟨_, rfl⟩
  rw [hful]
  have HFUL := Lib.hid hful
  clear hful
  rcases hq : askV ans 0 [] all with _ | ⟨v, u, kn⟩
  · have hR : Hid (full = .inl all) := by show _ = _; rw [← HFUL.out, HTD.out, Tr.go_none (askS_none hq)]
    have HQ := Lib.hid hq
    clear hq
    go_enter Tryd.func95, Tryd.ntmps95
    go_wp2_with fail
    refine (fails_ask s km ans 0 [] A1 c1 all w1 hsk hr1 (by omega) (i64_of HUS.out (by omega)) (htab.fr hw0) HQ.out).mono ?_
    rintro e w2 ⟨A2, c2, rfl, hr2, hf2, hnw⟩
    go_wp2
    rw [hR.out]
    exact ⟨rfl, A2, c2, rfl, hr2, hf2.mono (by simp), hnw, all, hbc.fr0 hf2, hal⟩
  · have hfl : full = (if v = 2 then chgT L (chgM all 0 + 1) all 0 else .ret (7, [], [])).go (askS ans) (u, kn) := by
      rw [← HFUL.out, HTD.out, Tr.go_some (askS_some hq)]
    have HQ := Lib.hid hq
    clear hq
    by_cases hv : v = 2
    · have hb2 : (v == 2) = true := by simp [hv]
      rw [if_pos hv] at hfl
      have HFL := Lib.hid hfl
      clear hfl hv
      go_enter Tryd.func95, Tryd.ntmps95
      go_wp2_with fail
      refine (fails_got s km ans 0 [] A1 c1 all w1 hsk hr1 (by omega) (i64_of HUS.out (by omega)) (htab.fr hw0) HQ.out).mono ?_
      rw [hb2]
      rintro e w2 ⟨rfl, hf2, hsk2⟩
      have hI : IChInv w0 w1 ans L full s km bc h0 w1.heap.size (chgM all 0 + 1) (.int .i64 (0 : Nat)) w2 :=
        ⟨all, 0, u, kn, rfl, Nat.zero_le _, Nat.lt_succ_self _, HUS, HUC, HFL, hsk2, hbc.fr hf2 (by simp; omega) (fun x hx => .inl (by simp at hx; rcases hx with rfl | rfl <;> exact out_s (by omega) (by omega))), hf2.mono (by simp)⟩
      clear hf2 hsk2 HFL hb1 hr1 hn1 k0 hbc
      go_wp2_with fail
      go_loopg [5] (chgM all 0 + 1) (IChInv w0 w1 ans L full s km bc h0 w1.heap.size)
      case atStart => exact hI
      case round =>
        clear hI
        obtain ⟨set, i, used, kk, rfl, hile, hm5, hset, hcl, hfu, hsk5, hbc5, hf5⟩ := hrel
        obtain ⟨t, rfl⟩ : ∃ t, gk = t + 1 := ⟨gk - 1, by omega⟩
        obtain ⟨hsr, hsl⟩ := set_inR hset.out
        have HSR := Lib.hid hsr
        obtain ⟨A5, c5, hb5, hr5, hn5⟩ := id hbc5
        have k5 := hb5.cell 0 rfl
        have hF5 : Fr [] w0 wr := hw0.trans2 hf5 (by simp; omega)
        have hbn5 := hbn.fr hf5 (by simp; omega)
        have q5 := hbn5.cell 0 rfl
        have hz5 := hf5.size
        clear hsr
        by_cases hlt : i < set.length
        · obtain ⟨b6, o6, x, rfl, hx, hc6⟩ := hr5.at_ hlt
          have hstep := chgT_ask (L := L) (t := t) hx.out
          rw [hstep] at hfu
          have hxr := HSR.out x (List.mem_of_getElem? hx.out)
          obtain ⟨xn, rfl⟩ : ∃ xn : Nat, x = xn := ⟨x.toNat, by omega⟩
          have HM1 := Lib.hid (chg_fail (L := L) hx.out (by omega))
          have HM2 := Lib.hid (chg_next hlt)
          have HWS := Lib.hid (wout_set L (xn : Int) hset.out)
          have HWC := Lib.hid (wout_closed (i := (xn : Int)) hcl.out)
          have hwl := wout_le L set (xn : Int)
          clear hstep
          go_wp2_with fail
          go_region_held3 (fun w' => w'.cell? ⟨bc, 0, none⟩ = some (.slice (some ⟨b6, o6, none⟩) set.length c5) ∧ w'.cell? ⟨bn, 0, none⟩ = some (.slice A0 L.length c0) ∧ w'.cell? ⟨b6, o6 + i, none⟩ = some (.int .i64 xn))
            (first
              | go_keep
              | exact ⟨hfa.cell (by assumption) (by simp), hfa.cell (by assumption) (by simp), hfa.cell (by assumption) (by simp)⟩)
            (first
              | (go_at_call 96; refine (reducedW_any A0 _ c0 c5 L set xn _ (ha.fr0 (Fr.trans hF5 (by repeat (first | exact Fr.refl _ _ | assumption | apply Fr.drewN | apply Fr.drew | apply Fr.alloc | refine Fr.setCell ?_ (by simp) _)))) (hr5.fr0 (by repeat (first | exact Fr.refl _ _ | assumption | apply Fr.drewN | apply Fr.drew | apply Fr.alloc | refine Fr.setCell ?_ (by simp) _))) HI.out HSR.out (by omega) (by omega) (by omega)).mono ?_; rintro e w7 ⟨A7, c7, rfl, hfa, ho7⟩; have hFa : Fr [] wr w7 := (Fr.trans (by repeat (first | exact Fr.refl _ _ | assumption | apply Fr.drewN | apply Fr.drew | apply Fr.alloc | refine Fr.setCell ?_ (by simp) _)) hfa)))
          have hsk7 := hsk5.fr0 hFa
          have hbc7 := hbc5.fr0 hFa
          have hf7 := hf5.trans0 hFa
          have hrx : Rd w7 (.int .i64) A7 c7 (wout L set (xn : Int)) := (Rd.of_own ho7).2
          have hnw7 := Nw.own ho7
          have hF7 : Fr [] w0 w7 := hw0.trans2 hf7 (by simp; omega)
          generalize hwo : wout L set (xn : Int) = wo at *
          have HWO := Lib.hid hwo
          clear hwo hc6 hb5 hr5 hn5 hbn5 q5 k5 hsk5 hbc5 hf5 hF5
          rcases hq : askV ans used kk wo with _ | ⟨v2, u2, kn2⟩
          · have hR : Hid (full = .inl wo) := by show _ = _; rw [hfu.out, Tr.go_none (askS_none hq)]
            have HQ2 := Lib.hid hq
            clear hq
            go_wp2_with fail
            refine (fails_ask s km ans used kk A7 c7 wo _ hsk7 hrx (by omega) (i64_of HWS.out (by omega)) (htab.fr hF7) HQ2.out).mono ?_
            rintro e w8 ⟨A8, c8, rfl, hr8, hf8, hnw8⟩
            go_wp2
            rw [hR.out]
            exact ⟨rfl, A8, c8, rfl, hr8, (hf7.trans0 hf8).mono (by simp), hnw8.mono hf7.size, set, hbc7.fr0 hf8, by omega⟩
          · have hfl : full = (if v2 = 2 then chgT L t wo 0 else chgT L t set (i + 1)).go (askS ans) (u2, kn2) := by
              rw [hfu.out, Tr.go_some (askS_some hq)]
            have HQ2 := Lib.hid hq
            clear hq hfu
            by_cases hv2 : v2 = 2
            · have hb3 : (v2 == 2) = true := by simp [hv2]
              rw [if_pos hv2] at hfl
              have HFL := Lib.hid hfl
              clear hfl hv2
              go_wp2_with fail
              refine (fails_got s km ans used kk A7 c7 wo _ hsk7 hrx (by omega) (i64_of HWS.out (by omega)) (htab.fr hF7) HQ2.out).mono ?_
              rw [hb3]
              rintro e w8 ⟨rfl, hf8, hsk8⟩
              have hbc8 := hbc7.fr hf8 (by simp; omega) (fun x hx => .inl (by simp at hx; rcases hx with rfl | rfl <;> exact out_s (by omega) (by omega)))
              obtain ⟨A9, c9, hb9, hr9, hn9⟩ := id hbc8
              have k9 := hb9.cell 0 rfl
              have k9f := hb9.frozen 0
              have ho8 := own_fr ho7 hf8 (fun k hk => by have h1 := (ho7.lt k hk).1; simp at h1 ⊢; omega)
              have hf8b := hf7.trans (hf8.mono (T := [s, km, bc]) (by simp))
              have hzz : w1.heap.size ≤ wr.heap.size := hz5
              go_wp2_with fail
              go_roundg t
              case measure => omega
              case rel =>
                have hne : w7.heap.size ≤ w8.heap.size := hf8.size
                refine ⟨wo, 0, u2, kn2, by go_num, Nat.zero_le _, by have := HM1.out; omega, HWS, HWC, HFL.out, hsk8.farS hb9 (by omega) (by omega) _, candAt_new hb9 ho8 (fun b h1 h2 => .inr ?_) ?_, hf8b.setCell (.inl (by simp)) _⟩
                · simp at h1; omega
                · simp; omega
            · have hb3 : (v2 == 2) = false := by simpa using hv2
              rw [if_neg hv2] at hfl
              have HFL := Lib.hid hfl
              clear hfl hv2
              go_wp2_with fail
              refine (fails_got s km ans used kk A7 c7 wo _ hsk7 hrx (by omega) (i64_of HWS.out (by omega)) (htab.fr hF7) HQ2.out).mono ?_
              rw [hb3]
              rintro e w8 ⟨rfl, hf8, hsk8⟩
              have hbc8 := hbc7.fr hf8 (by simp; omega) (fun x hx => .inl (by simp at hx; rcases hx with rfl | rfl <;> exact out_s (by omega) (by omega)))
              go_wp2_with fail
              go_roundg t
              case measure => omega
              case rel => exact ⟨set, i + 1, u2, kn2, by go_num, by omega, by have := HM2.out; omega, hset, hcl, HFL.out, hsk8, hbc8, hf7.trans (hf8.mono (by simp))⟩
        · have hR : Hid (full = .inr ((0, set, []), (used, kk))) := by show _ = _; rw [hfu.out, chgT_end hlt]; rfl
          go_wp2
          go_ret
          rw [hR.out]
          exact ⟨rfl, hsk5.srch, hf5, set, hbc5, by omega, fun _ => rfl⟩
    · have hb2 : (v == 2) = false := by simpa using hv
      rw [if_neg hv] at hfl
      have hR : Hid (full = .inr ((7, [], []), (u, kn))) := hfl
      clear hfl hv
      go_enter Tryd.func95, Tryd.ntmps95
      go_wp2_with fail
      refine (fails_got s km ans 0 [] A1 c1 all w1 hsk hr1 (by omega) (i64_of HUS.out (by omega)) (htab.fr hw0) HQ.out).mono ?_
      rw [hb2]
      rintro e w2 ⟨rfl, hf2, hsk2⟩
      go_wp2
      go_ret
      rw [hR.out]
      exact ⟨rfl, hsk2.srch, hf2.mono (by simp), all, hbc.fr hf2 (by simp; omega) (fun x hx => .inl (by simp at hx; rcases hx with rfl | rfl <;> exact out_s (by omega) (by omega))), hal, by simp⟩
end Go.Proofs.YtjpbmbonccenfaaDoor

/- Changes of the program. -/
namespace Go.Proofs.YtjpbmbonccenfaaDoor
open Go.RowKit
set_option linter.unusedVariables false

theorem enter_chg (args : Array Value) (w : World) : (callFunc 95 args).run Tryd.prog w = .ok (.enter 95 args) w := by
  simp [go_sem]
theorem AtDo.sk {w w1 : World} {ans : List Int} (h : AtDo w w1 ans) : SK w1 (w.heap.size + 1 + 1) (w.heap.size + 1) ans 0 [] :=
  ⟨h.srch, h.map, by omega, Nat.zero_le _⟩
theorem fin_ask {ans q cd : List Int} {r : List Int ⊕ (Res × (Nat × Kn))} (h : r = .inl q) : finT ans r = questOf q cd false 0 := by
  subst h
  simp [finT, questOf]
theorem fin_end {ans kept cd : List Int} {er : Int} {u : Nat} {kn : Kn} {r : List Int ⊕ (Res × (Nat × Kn))} (h : r = .inr ((er, kept, []), (u, kn))) (hc : er = 0 → cd = kept) :
    finT ans r = questOf [] cd (decide (er = 0 ∧ ans.length ≤ u)) (if er ≠ 0 then er else if u < ans.length then 8 else 0) := by
  subst h
  unfold finT endOf questOf
  by_cases he : er = 0
  · subst he
    by_cases hu : u < ans.length
    · simp [hu]
    · simp [hu, hc rfl]
  · simp [he]
theorem chgT_pass {L : List (List Int)} : ∀ (t : Nat) (set : List Int) (i : Nat), (chgT L t set i).Ends fun r => r.2.2 = []
  | 0, _, _ => rfl
  | t + 1, set, i => by
    by_cases h : i < set.length
    · rw [chgT_ask (List.getElem?_eq_getElem h)]
      intro v
      show Tr.Ends _ (if v = 2 then _ else _)
      by_cases hv : v = 2
      · rw [if_pos hv]; exact chgT_pass t _ _
      · rw [if_neg hv]; exact chgT_pass t _ _
    · rw [chgT_end h]; rfl
theorem changesT_pass (L : List (List Int)) : (changesT L).Ends fun r => r.2.2 = [] := fun v => by
  show Tr.Ends _ (if v = 2 then _ else _)
  by_cases hv : v = 2
  · rw [if_pos hv]; exact chgT_pass _ _ _
  · rw [if_neg hv]; rfl

set_option maxRecDepth 100000 in
set_option maxHeartbeats 6400000 in
theorem Changes_any (A D : Option Addr) (c d : Nat) (L : List (List Int)) (ans : List Int) (w : World) (ha : Rss w A c L) (hd : Rd w (.int .u8) D d ans) (htab : Tab w) :
    Calls Tryd.prog 41 #[.slice A L.length c, .slice D ans.length d] w (RetQstF w.heap.size w (changesOf L ans)) := by
  have hn : ∀ W : World, Rd W (.int .i64) none 0 ([] : List Int) ∧ Nw w.heap.size none := fun W => ⟨Rd.nil_ W _, Nw.none_ _⟩
  have hmf : ∀ (fn : Fn) (first cap : Array Value) (w : World), (Instr.makeFunc fn first cap).run Tryd.prog w = .ok (.func fn first cap) w := fun _ _ _ _ => rfl
  obtain ⟨W, hW⟩ : ∃ W, W = ((w.alloc (.cells #[.slice A L.length c] 24)).alloc (.cells #[.bool false, .slice none 0 0, .slice none 0 0, .slice none 0 0] 34)) := ⟨_, rfl⟩
  have hsz : W.heap.size = w.heap.size + 2 := by rw [hW]; simp
  have hfW : Fr [] w W := by rw [hW]; exact (by repeat (first | exact Fr.refl _ _ | assumption | apply Fr.drewN | apply Fr.drew | apply Fr.alloc | refine Fr.setCell ?_ (by simp) _))
  have hbN : Blk W w.heap.size 24 #[.slice A L.length c] := by rw [hW]; exact (Blk.new w _ _ _ rfl).alloc _
  have hbQ : Blk W (w.heap.size + 1) 34 #[.bool false, .slice none 0 0, .slice none 0 0, .slice none 0 0] := by rw [hW]; exact Blk.new (w.alloc _) _ _ _ (by simp)
  have HW := Lib.hid hW.symm
  clear hW
  have hck := CheckNeeds_any A c L W (ha.fr0 hfW)
  by_cases hk : checkNeeds L = 0
  · have hcb : (checkNeeds L != 0) = false := by simp [hk]
    have hLn := (needs_facts hk).1
    have HK := Lib.hid hk
    have hR0 : Hid (changesOf L ans = qOf ans (changesT L)) := by show _ = _; unfold changesOf; rw [if_neg (by simp [hk])]
    clear hk
    go_enter Tryd.func41, Tryd.ntmps41
    go_wp2_with fail
    rw [HW.out]
    have q0 := hbN.cell 0 rfl
    go_wp2_with fail
    refine hck.mono ?_
    rintro e w1 h1
    obtain ⟨rfl, hf1⟩ := h1.v
    have hF1 := hfW.trans hf1
    have hN1 := hbN.fr hf1 (by simp)
    have hB1 := hbQ.fr hf1 (by simp)
    have hz1 := hf1.size
    clear hbN hbQ hfW hf1 hck HW h1 q0
    have q0 := hN1.cell 0 rfl
    go_wp2_with fail
    refine (whole_any (L.length : Nat) _ (by omega)).mono ?_
    rintro e w2 ⟨A2, c2, rfl, hf2, ho2⟩
    rw [Int.toNat_natCast] at ho2 ⊢
    have hF2 := hF1.trans hf2
    have hN2 := hN1.fr hf2 (by simp)
    have hB2 := hB1.fr hf2 (by simp)
    have hz2 := hf2.size
    have hr2 : Rd w2 (.int .i64) A2 c2 (upTo L.length) := (Rd.of_own ho2).2
    have hul := upTo_length L.length
    obtain ⟨w3, hw3⟩ : ∃ w3, w3 = w2.alloc (.cells #[.slice A2 (upTo L.length).length c2] 22) := ⟨_, rfl⟩
    have hC3 : Blk w3 w2.heap.size 22 #[.slice A2 (upTo L.length).length c2] := by rw [hw3]; exact Blk.new w2 _ _ _ rfl
    have hcd3 : CandAt w3 w2.heap.size (fun b => b < w3.heap.size) (upTo L.length) := ⟨A2, c2, hC3, by rw [hw3]; exact hr2.alloc _, fun h0 a ha => by have := hr2.lt h0 a ha; rw [hw3]; simp; omega⟩
    have hN3 : Blk w3 w.heap.size 24 #[.slice A L.length c] := by rw [hw3]; exact hN2.alloc _
    have hB3 : Blk w3 (w.heap.size + 1) 34 #[.bool false, .slice none 0 0, .slice none 0 0, .slice none 0 0] := by rw [hw3]; exact hB2.alloc _
    have hF3 : Fr [] w w3 := by rw [hw3]; exact hF2.alloc _
    have hz3 : w3.heap.size = w2.heap.size + 1 := by rw [hw3]; simp
    have HW3 := Lib.hid hw3.symm
    clear hw3 hr2 ho2 hF1 hN1 hB1 hf2 q0 hN2 hB2 hF2
    have HUL := Lib.hid hul
    clear hul
    have hdr := hd.fr0 hF3
    go_wp2_with fail
    rw [HW3.out]
    by_cases h4 : 4096 < ans.length
    · have hR : Hid (changesOf L ans = (qNone, 3)) := by show _ = _; rw [hR0.out]; unfold qOf; rw [if_pos h4]
      go_wp2_with fail
      refine (run_limit _ D d ans _ hdr h4).mono ?_
      rintro e w5 ⟨rfl, hf5⟩
      obtain ⟨A5, c5, hb5, hr5, _⟩ := hcd3.fr0 hf5
      have k5 := hb5.cell 0 rfl
      have hB5 := hB3.fr hf5 (by simp)
      have hF5 := hF3.trans hf5
      go_wp2_with fail
      refine (quest_any none A5 0 c5 [] (upTo L.length) false 3 _ (Rd.nil_ _ _) hr5 (by rw [HUL.out]; omega) w.heap.size hF5.size (Nw.none_ _)).mono ?_
      rintro e w6 ⟨vq, rfl, hf6, A1, a1, B1, b1, C1, c1, rfl, hq1, hq2, hq3⟩
      have hB6 := hB5.fr hf6 (by simp)
      have qc0 := hB6.cell 0 rfl
      have qc1 := hB6.cell 1 rfl
      have qc2 := hB6.cell 2 rfl
      have qc3 := hB6.cell 3 rfl
      have qd0 := hB6.frozen 0
      have qd1 := hB6.frozen 1
      have qd2 := hB6.frozen 2
      have qd3 := hB6.frozen 3
      go_wp2
      refine bodyPost_ret (results_qst rfl _ _ (w.heap.size + 1) rfl (hB6.four _ _ _ _)) rfl ?_
      rw [hR.out, show (qNone, (3 : Int)) = questOf [] (upTo L.length) false 3 by simp [questOf]]
      exact qstF_ret (by omega) (hF5.trans hf6) hB6 hq1 hq2 hq3
    · obtain ⟨full, hful⟩ : ∃ f, (changesT L).go (askS ans) (0, []) = f := ⟨_, rfl⟩
      have hR : Hid (changesOf L ans = finT ans full) := by show _ = _; rw [hR0.out, qOf_fin h4, hful]
      have hdo : ∀ w1, AtDo w3 w1 ans → Calls Tryd.prog 95 (#[.pointer (some ⟨w3.heap.size + 1 + 1, 0, none⟩)] ++ #[.pointer (some ⟨w2.heap.size, 0, none⟩), .pointer (some ⟨w.heap.size, 0, none⟩)]) w1
          (SetDo w1 (w3.heap.size + 1 + 1) (w3.heap.size + 1) w2.heap.size w3.heap.size (w3.heap.size + 3) ans ((changesT L).go (askS ans) (0, []))) := fun w1 hat => by
        have hz := hat.size
        rw [← hz]
        exact chgdo_any (w3.heap.size + 1 + 1) (w3.heap.size + 1) w.heap.size w2.heap.size w3.heap.size ans w w1 A c L ha HK.out (hF3.trans hat.fr) htab (by omega) (by omega) (by omega) (by omega) (by omega) (by omega) (by omega) hat.sk (hN3.fr hat.fr (by simp))
          ((hcd3.imp (fun b _ h => .inl h)).fr0 hat.fr)
      have hpass : ∀ er kept pass u kn, full = .inr ((er, kept, pass), (u, kn)) → pass = [] := fun er kept pass u kn he => by
        rw [← hful] at he
        exact Tr.ends_go (P := fun r : Res => r.2.2 = []) _ _ (changesT_pass L) he
      rw [hful] at hdo
      have HP := Lib.hid hpass
      have h4' : ans.length ≤ 4096 := by omega
      have hS : ∀ x ∈ [w2.heap.size], x < w3.heap.size := by simp; omega
      clear hful h4 hpass hR0
      rcases full with q | ⟨⟨er, kept, pass⟩, u, kn⟩
      · go_wp2_with fail
        refine (run_ask w3 D d ans 95 _ _ hS _ q hdr h4' enter_chg hdo).mono ?_
        rintro e w5 ⟨A3, c3, rfl, hr3, hf5, hnw, wd, ⟨cd, hcd, hcdl⟩, hfd⟩
        clear hdo
        have hcd5 := hcd.fr hfd (by simp; omega) (by intro x hx; simp at hx; subst hx; exact .inl (out_s (Nat.le_refl _) (by omega)))
        obtain ⟨A6, c6, hbk6, hcr6, _⟩ := hcd5
        have k5 := hbk6.cell 0 rfl
        have hB5 := hB3.fr hf5 (by simp; omega)
        have hf05 : Fr [] w w5 := hF3.trans2 hf5 (by simp; omega)
        go_wp2_with fail
        refine (quest_any A3 A6 c3 c6 q cd false 0 _ hr3 hcr6 (by omega) w.heap.size hf05.size (hnw.mono hF3.size)).mono ?_
        rintro e w6 ⟨vq, rfl, hf6, A1, a1, B1, b1, C1, c1, rfl, hq1, hq2, hq3⟩
        have hB6 := hB5.fr hf6 (by simp)
        have qc0 := hB6.cell 0 rfl
        have qc1 := hB6.cell 1 rfl
        have qc2 := hB6.cell 2 rfl
        have qc3 := hB6.cell 3 rfl
        have qd0 := hB6.frozen 0
        have qd1 := hB6.frozen 1
        have qd2 := hB6.frozen 2
        have qd3 := hB6.frozen 3
        go_wp2
        refine bodyPost_ret (results_qst rfl _ _ (w.heap.size + 1) rfl (hB6.four _ _ _ _)) rfl ?_
        rw [hR.out, fin_ask (cd := cd) rfl]
        exact qstF_ret (by omega) (hf05.trans hf6) hB6 hq1 hq2 hq3
      · obtain rfl := HP.out er kept pass u kn rfl
        clear HP
        go_wp2_with fail
        refine (run_end w3 D d ans 95 _ _ hS _ er u hdr h4' enter_chg hdo).mono ?_
        rintro e w5 ⟨rfl, hf5, wd, ⟨cd, hcd, hcdl, hck⟩, hfd⟩
        clear hdo
        have hcd5 := hcd.fr hfd (by simp; omega) (by intro x hx; simp at hx; subst hx; exact .inl (out_s (Nat.le_refl _) (by omega)))
        obtain ⟨A6, c6, hbk6, hcr6, _⟩ := hcd5
        have k5 := hbk6.cell 0 rfl
        have hB5 := hB3.fr hf5 (by simp; omega)
        have hf05 : Fr [] w w5 := hF3.trans2 hf5 (by simp; omega)
        have HFE := Lib.hid (fin_end (ans := ans) (kn := kn) (u := u) rfl hck)
        clear hck
        generalize hdn : decide (er = 0 ∧ ans.length ≤ u) = dn at *
        generalize her : (if er ≠ 0 then er else if u < ans.length then 8 else 0) = er2 at *
        have HD := Lib.hid hdn
        have HE := Lib.hid her
        clear hdn her
        go_wp2_with fail
        refine (quest_any none A6 0 c6 [] cd dn er2 _ (Rd.nil_ _ _) hcr6 (by omega) w.heap.size hf05.size (Nw.none_ _)).mono ?_
        rintro e w6 ⟨vq, rfl, hf6, A1, a1, B1, b1, C1, c1, rfl, hq1, hq2, hq3⟩
        have hB6 := hB5.fr hf6 (by simp)
        have qc0 := hB6.cell 0 rfl
        have qc1 := hB6.cell 1 rfl
        have qc2 := hB6.cell 2 rfl
        have qc3 := hB6.cell 3 rfl
        have qd0 := hB6.frozen 0
        have qd1 := hB6.frozen 1
        have qd2 := hB6.frozen 2
        have qd3 := hB6.frozen 3
        go_wp2
        refine bodyPost_ret (results_qst rfl _ _ (w.heap.size + 1) rfl (hB6.four _ _ _ _)) rfl ?_
        rw [hR.out, HFE.out]
        exact qstF_ret (by omega) (hf05.trans hf6) hB6 hq1 hq2 hq3
  · have hcb : (checkNeeds L != 0) = true := by simpa using hk
    have hR : Hid (changesOf L ans = (qNone, checkNeeds L)) := by show _ = _; unfold changesOf; rw [if_pos hk]
    clear hk
    go_enter Tryd.func41, Tryd.ntmps41
    go_wp2_with fail
    rw [HW.out]
    have q0 := hbN.cell 0 rfl
    go_wp2_with fail
    refine hck.mono ?_
    rintro e w1 h1
    obtain ⟨rfl, hf1⟩ := h1.v
    have hB1 := hbQ.fr hf1 (by simp)
    clear h1
    have qc0 := hB1.cell 0 rfl
    have qc1 := hB1.cell 1 rfl
    have qc2 := hB1.cell 2 rfl
    have qc3 := hB1.cell 3 rfl
    have qd0 := hB1.frozen 0
    have qd1 := hB1.frozen 1
    have qd2 := hB1.frozen 2
    have qd3 := hB1.frozen 3
    go_wp2
    refine bodyPost_ret (results_qst rfl _ _ (w.heap.size + 1) rfl (hB1.four _ _ _ _)) rfl ?_
    rw [hR.out]
    exact qstF_ret (r := (qNone, checkNeeds L)) (by omega) (hfW.trans hf1) hB1 (hn _) (hn _) (hn _)
end Go.Proofs.YtjpbmbonccenfaaDoor
