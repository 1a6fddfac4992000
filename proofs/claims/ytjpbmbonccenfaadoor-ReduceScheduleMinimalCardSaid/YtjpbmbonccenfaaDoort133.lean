/- Texts of this seat, one behind the other: LChgMin. -/
import Derived.Test.YtjpbmbonccenfaaDoort132
import Derived.Test.YtjpbmbonccenfaaDoort127
import Derived.Test.YtjpbmbonccenfaaDoort121
/- ReduceChangesMinimal: the walk. -/
namespace Go.Proofs.YtjpbmbonccenfaaDoor
open Go.RowKit
set_option linter.unusedVariables false

/-- What the search asks of an oracle. -/
noncomputable def chgAsks (L : List (List Int)) (o : List Int → Int) : List (List Int) := (changesT L).asks o []
theorem chgAsks_le {L : List (List Int)} (h : checkNeeds L = 0) (hn : L.length ≤ 9) (o : List Int → Int) : (chgAsks L o).length ≤ 512 := by
  have himp : ∀ {P Q : List Int → Prop} (hPQ : ∀ q, P q → Q q) (t : Tr (List Int) Int Res), t.All P → t.All Q := by
    intro P Q hPQ t
    induction t with
    | ret a => exact fun h => h
    | ask q k ih => exact fun h => ⟨hPQ q h.1, fun a => ih a (h.2 a)⟩
  have := asks_few o (n := L.length) (changesT L) (himp (fun q hq => hq.1) _ (changesT_all h))
  refine Nat.le_trans this ?_
  have : (2 : Nat) ^ L.length ≤ 2 ^ 9 := Nat.pow_le_pow_right (by omega) hn
  exact this
theorem chgAsks_at {L : List (List Int)} (h : checkNeeds L = 0) (hn : L.length ≤ 9) {o : List Int → Int} (ho : ∀ q, told (o q) = o q) {k : Nat} {q : List Int} (hq : (chgAsks L o)[k]? = some q) :
    changesOf L (((chgAsks L o).take k).map o) = (⟨false, q, [], []⟩, 0) ∧ isSet L.length q = true ∧ isClosedB L q = true := by
  obtain ⟨hk, hqe⟩ := List.getElem?_eq_some_iff.1 hq
  have hl := chgAsks_le h hn o
  refine ⟨?_, Tr.asks_all o _ [] (changesT_all h) q (List.mem_of_getElem? hq)⟩
  unfold changesOf
  rw [if_neg (by simp [h])]
  refine qOf_stop ho (rest := (chgAsks L o).drop (k + 1)) ?_ (by rw [List.length_take]; omega)
  show chgAsks L o = _
  have e1 := (List.take_append_drop k (chgAsks L o)).symm
  rw [List.drop_eq_getElem_cons hk, hqe] at e1
  exact e1
theorem chgAsks_end {L : List (List Int)} (h : checkNeeds L = 0) (hn : L.length ≤ 9) {o : List Int → Int} (ho : ∀ q, told (o q) = o q) :
    (o (upTo L.length) = 2 ∧ ∃ r, changesOf L ((chgAsks L o).map o) = (⟨true, [], r, []⟩, 0) ∧ isSet L.length r = true ∧ isClosedB L r = true ∧ o r = 2 ∧ ∀ x ∈ r, o (wout L r x) ≠ 2) ∨
    (o (upTo L.length) ≠ 2 ∧ (chgAsks L o).length = 1 ∧ changesOf L ((chgAsks L o).map o) = (qNone, 7)) := by
  have hl := chgAsks_le h hn o
  have he : changesOf L ((chgAsks L o).map o) = endOf false [] ((changesT L).res o).1 false ((changesT L).res o).2.1 ((changesT L).res o).2.2 := by
    unfold changesOf
    rw [if_neg (by simp [h])]
    have hl2 : ((changesT L).asks o []).length + ([] : List Int).length ≤ 4096 := by
      have : ((changesT L).asks o []).length ≤ 512 := hl
      simp only [List.length_nil]; omega
    have := qOf_whole ho (changesT L) [] hl2
    simpa [chgAsks] using this
  have hok := changesT_ok h o
  by_cases h2 : o (upTo L.length) = 2
  · rw [if_pos h2] at hok
    refine .inl ⟨h2, ((changesT L).res o).2.1, ?_, hok.set, hok.cl, hok.fails, hok.min⟩
    rw [he, hok.er, hok.pass]
    rfl
  · rw [if_neg h2] at hok
    refine .inr ⟨h2, ?_, ?_⟩
    · unfold chgAsks changesT
      rw [Tr.asks, if_neg (by simp)]
      simp only [if_neg h2, Tr.asks, List.length_cons, List.length_nil]
    · rw [he, hok]
      rfl
theorem OrcIs.agg {w : World} {N B : Option Addr} {n b : Nat} {o : Orc} (hN : Rss w N n o.need) (hB : Rss w B b o.bar) (hs : 0 ≤ o.salt ∧ o.salt ≤ 18446744073709551615) (hl : 0 ≤ o.loose ∧ o.loose ≤ 255) :
    OrcIs w (.agg #[.slice N o.need.length n, .slice B o.bar.length b, .int .u64 o.salt, .int .u8 o.loose]) o := ⟨N, n, B, b, rfl, hN, hB, hs, hl⟩

theorem refAllU_any (n : Nat) (all : List Int) (w : World) (hn : n ≤ 1000000) (h : Hid (all = upTo n)) : Calls Tryd.prog 42 #[.int .i64 n] w (RetN w 3 all) := by
  have := refAll_any (n : Nat) w (by omega)
  rw [Int.toNat_natCast, ← h.out] at this
  exact this
/-- Between two questions. -/
def CMInv (w : World) (T : List (List Int)) (say : List Int → Int) (ov : Array Value) (t : Nat) (v : Value) (wr : World) : Prop :=
  ∃ (ans : List Int) (A : Option Addr) (c : Nat), Hid (ans = (T.take ans.length).map say) ∧ ans.length ≤ T.length ∧ T.length < ans.length + t ∧ v = .slice A ans.length c ∧
    wr.ownsRow w.heap.size 39 1 (.slice A ans.length c) ans.length (ans.map (.int .u8)) ∧ Blk wr w.heap.size 30 ov ∧ Fr [] w wr
theorem ans_next {T : List (List Int)} {say : List Int → Int} {ans : List Int} {q : List Int} (h : Hid (ans = (T.take ans.length).map say)) (hq : Hid (T[ans.length]? = some q)) :
    ans ++ [say q] = (T.take (ans ++ [say q]).length).map say := by
  rw [List.length_append, List.length_singleton, List.take_add_one, hq.out, List.map_append, ← h.out]
  rfl

set_option maxRecDepth 100000 in
set_option maxHeartbeats 6400000 in
theorem LChgMin_any (A : Option Addr) (c : Nat) (L : List (List Int)) (v : Value) (o : Orc) (w : World) (ha : Rss w A c L) (hov : OrcIs w v o) (htab : Tab w) :
    Calls Tryd.prog 7 #[.slice A L.length c, v] w (RetV w (.bool true)) := by
  have hbd := ha.bound
  obtain ⟨N, n, B, b, rfl, hN, hB, hs, hlo⟩ := id hov
  obtain ⟨W, hW⟩ : ∃ W, W = w.alloc (.cells #[.slice N o.need.length n, .slice B o.bar.length b, .int .u64 o.salt, .int .u8 o.loose] 30) := ⟨_, rfl⟩
  have hFW : Fr [] w W := by rw [hW]; exact (Fr.refl _ _).alloc _
  have hbk : Blk W w.heap.size 30 #[.slice N o.need.length n, .slice B o.bar.length b, .int .u64 o.salt, .int .u8 o.loose] := by rw [hW]; exact Blk.new _ _ _ _ rfl
  have HW := Lib.hid hW.symm
  have HOV := Lib.hid hov
  clear hW hov
  have e0 := hbk.cell 0 rfl
  have e1 := hbk.cell 1 rfl
  have e2 := hbk.cell 2 rfl
  have e3 := hbk.cell 3 rfl
  by_cases h9 : 9 < L.length
  · have d9 : decide (9 < (L.length : Int)) = true := by simp; omega
    go_enter Tryd.func7, Tryd.ntmps7
    go_wp2_with fail
    rw [HW.out]
    refine (runs_any _).mono ?_
    rintro e w2 ⟨rfl, hf2⟩
    go_wp2
    go_ret
    exact ⟨rfl, hFW.trans hf2⟩
  · have d9 : decide (9 < (L.length : Int)) = false := by simp; omega
    rcases hg : greatO o with _ | _
    · have HG := Lib.hid hg
      have hgc := Great_any _ o W (HOV.out.fr0 hFW)
      rw [hg] at hgc
      clear hg
      by_cases hk : checkNeeds L = 0
      · have hcb : (checkNeeds L != 0) = false := by simp [hk]
        have HK := Lib.hid hk
        obtain ⟨hLn, hl⟩ := needs_facts hk
        have HLN : Hid (∀ l ∈ L, l.length ≤ 1000000) := fun l h => by have := (set_inR (hl l h)).2; omega
        have ht : ∀ q, told (sayO o q) = sayO o q := sayO_told o
        have hal := chgAsks_le hk (by omega) (sayO o)
        have HAT : Hid (∀ k q, (chgAsks L (sayO o))[k]? = some q → changesOf L (((chgAsks L (sayO o)).take k).map (sayO o)) = (⟨false, q, [], []⟩, 0) ∧ isSet L.length q = true ∧ isClosedB L q = true) :=
          fun k q hq => chgAsks_at hk (by omega) ht hq
        have HEND := Lib.hid (chgAsks_end hk (by omega) ht)
        clear hk hl ht
        generalize chgAsks L (sayO o) = T at *
        go_enter Tryd.func7, Tryd.ntmps7
        go_wp2_with fail
        rw [HW.out]
        go_wp2_with fail
        refine hgc.mono ?_
        rintro e w1 ⟨rfl, hf1⟩
        have hF1 := hFW.trans hf1
        go_wp2_with fail
        refine (refCheckNeedsV_any A c L _ (ha.fr0 hF1)).mono ?_
        rintro e w2 ⟨rfl, hf2⟩
        have hF2 := hF1.trans hf2
        have hbk2 := (hbk.fr hf1 (by simp)).fr hf2 (by simp)
        clear hgc hF1 hf1 hf2 hbk e0 e1 e2 e3 HW hFW
        go_wp2_with fail
        have hI : CMInv w T (sayO o) #[.slice N o.need.length n, .slice B o.bar.length b, .int .u64 o.salt, .int .u8 o.loose] (T.length + 1) (.slice none 0 0) w2 :=
          ⟨[], none, 0, by show _ = _; simp, Nat.zero_le _, by omega, rfl, World.ownsRow_nil _ _ _ _, hbk2, hF2⟩
        clear hbk2 hF2
        go_loopg [5] (T.length + 1) (CMInv w T (sayO o) #[.slice N o.need.length n, .slice B o.bar.length b, .int .u64 o.salt, .int .u8 o.loose])
        case atStart => exact hI
        case round =>
          clear hI
          obtain ⟨ans, A5, c5, hans, hle, hgt, rfl, ho5, hb5, hF5⟩ := hrel
          obtain ⟨t, rfl⟩ : ∃ t, gk = t + 1 := ⟨gk - 1, by omega⟩
          have hr5 : Rd wr (.int .u8) A5 c5 ans := (Rd.of_own ho5).2
          rcases hq : T[ans.length]? with _ | q
          · have hTl : T.length = ans.length := by have := List.getElem?_eq_none_iff.1 hq; omega
            have hall : ans = T.map (sayO o) := by
              have h1 := hans.out
              rw [List.take_of_length_le (by omega)] at h1
              exact h1
            clear hq hgt
            rcases HEND.out with ⟨h2, r, hres, hrs, hrc, hr2, hrm⟩ | ⟨h2, h1, hres⟩
            · rw [← hall] at hres
              have hrl := (set_inR hrs).2
              have hrir := (set_inR hrs).1
              have HRES := Lib.hid hres
              have HRS := Lib.hid hrs
              have HRC := Lib.hid hrc
              have HRI := Lib.hid hrir
              have HRM := Lib.hid hrm
              have HR2 := Lib.hid hr2
              clear hres hrs hrc hrm hr2 h2 hall hrir HEND HAT hans
              go_wp2_with fail
              refine (Changes_any A A5 c c5 L ans _ (ha.fr0 hF5) hr5 (htab.fr hF5)).mono ?_
              rw [HRES.out]
              rintro e w6 ⟨v6, rfl, hf6, A1, a1, B1, b1, C1, c1, rfl, ⟨hq1, _⟩, ⟨hq2, _⟩, hq3, _⟩
              have hQ := Blk.new w6 34 #[.bool true, .slice A1 0 a1, .slice B1 r.length b1, .slice C1 0 c1] _ rfl
              have hrk := hq2.alloc (.cells #[.bool true, .slice A1 0 a1, .slice B1 r.length b1, .slice C1 0 c1] 34)
              have hF6 : Fr [] w _ := (hF5.trans hf6).alloc (.cells #[.bool true, .slice A1 0 a1, .slice B1 r.length b1, .slice C1 0 c1] 34)
              have hb6 := (hb5.fr hf6 (by simp)).alloc (.cells #[.bool true, .slice A1 0 a1, .slice B1 r.length b1, .slice C1 0 c1] 34)
              clear hf6 hb5 hF5 ho5 hr5 hq1 hq2 hq3
              obtain ⟨W6, hW6⟩ : ∃ W6, W6 = w6.alloc (.cells #[.bool true, .slice A1 0 a1, .slice B1 r.length b1, .slice C1 0 c1] 34) := ⟨_, rfl⟩
              rw [← hW6] at hQ hrk hF6 hb6
              have HW6 := Lib.hid hW6.symm
              clear hW6
              have qc0 := hQ.cell 0 rfl
              have qc1 := hQ.cell 1 rfl
              have qc2 := hQ.cell 2 rfl
              have qc3 := hQ.cell 3 rfl
              have qd0 := hQ.frozen 0
              have qd1 := hQ.frozen 1
              have qd2 := hQ.frozen 2
              have qd3 := hQ.frozen 3
              go_wp2_with fail
              rw [HW6.out]
              refine (Set_any B1 b1 r L.length _ hrk).mono ?_
              rw [HRS.out]
              rintro e w7 ⟨rfl, n7, rfl⟩
              go_wp2_with fail
              refine (refClosed_any A B1 c b1 L r _ (ha.fr0 (hF6.drewN _)) (hrk.drewN _) HRI.out HLN.out).mono ?_
              rw [HRC.out]
              rintro e w8 ⟨rfl, hf8⟩
              have hg8 : Fr [] W6 w8 := ((Fr.refl _ _).drewN n7).trans hf8
              have hQ8 := hQ.fr hg8 (by simp)
              have hb8 := hb6.fr hg8 (by simp)
              have hr8 := hrk.fr0 hg8
              have hF8 := hF6.trans hg8
              clear hf8 hg8 hQ hb6 hrk hF6 qc0 qc1 qc2 qc3 qd0 qd1 qd2 qd3 HW6
              have qc0 := hQ8.cell 0 rfl
              have qc1 := hQ8.cell 1 rfl
              have qc2 := hQ8.cell 2 rfl
              have qc3 := hQ8.cell 3 rfl
              have qd0 := hQ8.frozen 0
              have qd1 := hQ8.frozen 1
              have qd2 := hQ8.frozen 2
              have qd3 := hQ8.frozen 3
              have e0 := hb8.cell 0 rfl
              have e1 := hb8.cell 1 rfl
              have e2 := hb8.cell 2 rfl
              have e3 := hb8.cell 3 rfl
              go_wp2_with fail
              refine (Say_any _ o B1 b1 r _ (HOV.out.fr0 hF8) hr8 HG.out).mono ?_
              rw [HR2.out]
              rintro e w9 ⟨rfl, hf9⟩
              have hQ9 := hQ8.fr hf9 (by simp)
              have hb9 := hb8.fr hf9 (by simp)
              have hr9 := hr8.fr0 hf9
              have hF9 := hF8.trans hf9
              clear hf9 hQ8 hb8 hr8 hF8 qc0 qc1 qc2 qc3 qd0 qd1 qd2 qd3 e0 e1 e2 e3
              have hws := hF9.size
              go_wp2_with fail
              go_loopw [8] (fun i wr' => ∃ k : Nat, k ≤ r.length ∧ i = .int .i64 k ∧ Fr [] w9 wr') (fun i _ => r.length - (intOf i).toNat)
              case atStart => exact ⟨0, Nat.zero_le _, rfl, Fr.refl _ _⟩
              case round =>
                obtain ⟨k, hk, rfl, hf⟩ := hrel
                have hQk := hQ9.fr hf (by simp)
                have hbk := hb9.fr hf (by simp)
                have hrk := hr9.fr0 hf
                have hFk := hF9.trans hf
                have qc0 := hQk.cell 0 rfl
                have qc1 := hQk.cell 1 rfl
                have qc2 := hQk.cell 2 rfl
                have qc3 := hQk.cell 3 rfl
                have qd0 := hQk.frozen 0
                have qd1 := hQk.frozen 1
                have qd2 := hQk.frozen 2
                have qd3 := hQk.frozen 3
                by_cases hlt : k < r.length
                · obtain ⟨b7, o7, x, rfl, hx, hc7⟩ := hrk.at_ hlt
                  have hxm := List.mem_of_getElem? hx.out
                  have hxw := Lib.hid (HRM.out x hxm)
                  have hwo : Hid (withoutOf L r x = (wout L r x, 0)) := by
                    show _ = _
                    unfold withoutOf
                    rw [if_neg (by simp [HK.out]), if_neg (by simp [HRS.out, HRC.out]), if_neg (by simpa using hxm)]
                  have hxr := HRI.out x hxm
                  obtain ⟨xn, rfl⟩ : ∃ xn : Nat, x = xn := ⟨x.toNat, by omega⟩
                  clear hxm
                  go_wp2_with fail
                  go_region_held3 (fun w' => w'.cell? ⟨w6.heap.size, 2, none⟩ = some (.slice (some ⟨b7, o7, none⟩) r.length b1) ∧ w'.cell? ⟨b7, o7 + k, none⟩ = some (.int .i64 xn))
                    (first
                      | go_keep
                      | exact ⟨hfa.cell (by assumption) (by simp), hfa.cell (by assumption) (by simp)⟩)
                    (first
                      | (go_at_call 44; refine (refWithout_any A _ c b1 L r xn _ (ha.fr0 (Fr.trans hFk (by repeat (first | exact Fr.refl _ _ | assumption | apply Fr.drewN | apply Fr.drew | apply Fr.alloc | refine Fr.setCell ?_ (by simp) _)))) (hrk.fr0 (by repeat (first | exact Fr.refl _ _ | assumption | apply Fr.drewN | apply Fr.drew | apply Fr.alloc | refine Fr.setCell ?_ (by simp) _)))).mono ?_; rw [hwo.out]; rintro e w10 ⟨A10, c10, rfl, hfa, ho10⟩; have hFa : Fr [] wr w10 := (Fr.trans (by repeat (first | exact Fr.refl _ _ | assumption | apply Fr.drewN | apply Fr.drew | apply Fr.alloc | refine Fr.setCell ?_ (by simp) _)) hfa)))
                  have hF10 := hFk.trans hFa
                  have hr10 : Rd w10 (.int .i64) A10 c10 (wout L r (xn : Int)) := (Rd.of_own ho10).2
                  have hb10 := hbk.fr hFa (by simp)
                  have e0 := hb10.cell 0 rfl
                  have e1 := hb10.cell 1 rfl
                  have e2 := hb10.cell 2 rfl
                  have e3 := hb10.cell 3 rfl
                  have hG10 := hf.trans hFa
                  clear hfa ho10 hFa qc0 qc1 qc2 qc3 qd0 qd1 qd2 qd3 hQk hbk hrk hFk hf hc7
                  generalize wout L r (xn : Int) = wo at *
                  have hsb : (sayO o wo == 2) = false := beq_false_of_ne hxw.out
                  go_wp2_with fail
                  refine (Say_any _ o A10 c10 wo _ (HOV.out.fr0 hF10) hr10 HG.out).mono ?_
                  rintro e w11 ⟨rfl, hf11⟩
                  go_wp2_with fail
                  go_roundw
                  case rel => exact ⟨k + 1, by omega, by go_num, hG10.trans hf11⟩
                  case measure => simp [intOf]; omega
                · go_wp2_with fail
                  refine (runs_any _).mono ?_
                  rintro e w13 ⟨rfl, hf13⟩
                  go_wp2
                  go_ret
                  exact ⟨rfl, hFk.trans hf13⟩
            · rw [← hall] at hres
              have h1' : ans.length = 1 := by rw [hall, List.length_map]; exact h1
              have HRES := Lib.hid hres
              have hsb : (sayO o (upTo L.length) != 2) = true := by simpa using h2
              have hl1 : ((ans.length : Int) == 1) = true := by simp [h1']
              have hl1' : (ans.length == 1) = true := by simp [h1']
              have H1 := Lib.hid h1'
              clear hres h2 hall HEND HAT hans h1 h1'
              obtain ⟨all, hall2⟩ : ∃ all, all = upTo L.length := ⟨_, rfl⟩
              have hup := Lib.hid hall2
              rw [← hall2] at hsb
              clear hall2
              go_wp2_with fail
              refine (Changes_any A A5 c c5 L ans _ (ha.fr0 hF5) hr5 (htab.fr hF5)).mono ?_
              rw [HRES.out]
              rintro e w6 ⟨v6, rfl, hf6, A1, a1, B1, b1, C1, c1, rfl, ⟨hq1, _⟩, ⟨hq2, _⟩, hq3, _⟩
              have hF6 := hF5.trans hf6
              have hb6 := hb5.fr hf6 (by simp)
              clear hf6 hb5 hF5 ho5 hr5 hq1 hq2 hq3
              go_wp2_with fail
              have HFx : Fr [] w _ := hF6.alloc (.cells #[.bool qNone.done, .slice A1 qNone.ask.length a1, .slice B1 qNone.kept.length b1, .slice C1 qNone.pass.length c1] 34)
              have hbx := hb6.alloc (.cells #[.bool qNone.done, .slice A1 qNone.ask.length a1, .slice B1 qNone.kept.length b1, .slice C1 qNone.pass.length c1] 34)
              obtain ⟨W6, hW6⟩ : ∃ W6, W6 = w6.alloc (.cells #[.bool qNone.done, .slice A1 qNone.ask.length a1, .slice B1 qNone.kept.length b1, .slice C1 qNone.pass.length c1] 34) := ⟨_, rfl⟩
              rw [← hW6] at HFx hbx ⊢
              clear hW6
              have e0 := hbx.cell 0 rfl
              have e1 := hbx.cell 1 rfl
              have e2 := hbx.cell 2 rfl
              have e3 := hbx.cell 3 rfl
              go_region_held3 (fun w' => w'.cell? ⟨w.heap.size, 0, none⟩ = some (.slice N o.need.length n) ∧ w'.cell? ⟨w.heap.size, 1, none⟩ = some (.slice B o.bar.length b) ∧ w'.cell? ⟨w.heap.size, 2, none⟩ = some (.int .u64 o.salt) ∧ w'.cell? ⟨w.heap.size, 3, none⟩ = some (.int .u8 o.loose))
                (first
                  | go_keep
                  | exact ⟨hFa.cell e0 (by simp), hFa.cell e1 (by simp), hFa.cell e2 (by simp), hFa.cell e3 (by simp)⟩
                  | exact ⟨hFb.cell e0 (by simp), hFb.cell e1 (by simp), hFb.cell e2 (by simp), hFb.cell e3 (by simp)⟩
                  | exact ⟨hFc.cell e0 (by simp), hFc.cell e1 (by simp), hFc.cell e2 (by simp), hFc.cell e3 (by simp)⟩)
                (first
                  | (go_at_call 42; refine (refAllU_any L.length all _ (by omega) hup).mono ?_; rintro e w7 ⟨A7, c7, rfl, hfa, ho7⟩; have hFa : Fr [] W6 w7 := (Fr.trans (by repeat (first | exact Fr.refl _ _ | assumption | apply Fr.drewN | apply Fr.drew | apply Fr.alloc | refine Fr.setCell ?_ (by simp) _)) hfa))
                  | (go_at_call 23; refine (Say_any _ o A7 c7 all _ (HOV.out.fr0 (Fr.trans HFx (by repeat (first | exact Fr.refl _ _ | assumption | apply Fr.drewN | apply Fr.drew | apply Fr.alloc | refine Fr.setCell ?_ (by simp) _)))) ((Rd.of_own ho7).2.fr0 (by repeat (first | exact Fr.refl _ _ | assumption | apply Fr.drewN | apply Fr.drew | apply Fr.alloc | refine Fr.setCell ?_ (by simp) _))) HG.out).mono ?_; rintro e w8 ⟨rfl, hfb⟩; have hFb : Fr [] W6 w8 := (Fr.trans (by repeat (first | exact Fr.refl _ _ | assumption | apply Fr.drewN | apply Fr.drew | apply Fr.alloc | refine Fr.setCell ?_ (by simp) _)) hfb))
                  | (go_at_call 34; refine (runs_any _).mono ?_; rintro e w9 ⟨rfl, hfc⟩; have hFc : Fr [] W6 w9 := (Fr.trans (by repeat (first | exact Fr.refl _ _ | assumption | apply Fr.drewN | apply Fr.drew | apply Fr.alloc | refine Fr.setCell ?_ (by simp) _)) hfc)))
              go_wp2
              go_ret
              exact ⟨rfl, HFx.trans hFc⟩
          · obtain ⟨hres, hqs, hqc⟩ := HAT.out _ _ hq
            rw [← hans.out] at hres
            have HQ := Lib.hid hq
            have hql := (set_inR hqs).2
            have hlt2 : ans.length < T.length := (List.getElem?_eq_some_iff.1 hq).1
            have HRES := Lib.hid hres
            have HRS := Lib.hid hqs
            have HRC := Lib.hid hqc
            have HRI := Lib.hid (set_inR hqs).1
            clear hres hqs hqc hq HEND HAT
            go_wp2_with fail
            refine (Changes_any A A5 c c5 L ans _ (ha.fr0 hF5) hr5 (htab.fr hF5)).mono ?_
            rw [HRES.out]
            rintro e w6 ⟨v6, rfl, hf6, A1, a1, B1, b1, C1, c1, rfl, ⟨hq1, _⟩, ⟨hq2, _⟩, hq3, _⟩
            have hQ := Blk.new w6 34 #[.bool false, .slice A1 q.length a1, .slice B1 0 b1, .slice C1 0 c1] _ rfl
            have hrk := hq1.alloc (.cells #[.bool false, .slice A1 q.length a1, .slice B1 0 b1, .slice C1 0 c1] 34)
            have hG6 : Fr [] wr _ := hf6.alloc (.cells #[.bool false, .slice A1 q.length a1, .slice B1 0 b1, .slice C1 0 c1] 34)
            obtain ⟨W6, hW6⟩ : ∃ W6, W6 = w6.alloc (.cells #[.bool false, .slice A1 q.length a1, .slice B1 0 b1, .slice C1 0 c1] 34) := ⟨_, rfl⟩
            rw [← hW6] at hQ hrk hG6
            have HW6 := Lib.hid hW6.symm
            clear hW6 hf6 hq1 hq2 hq3
            have hF6 := hF5.trans hG6
            have hb6 := hb5.fr hG6 (by simp)
            have ho6 := own_fr ho5 hG6 (by simp)
            clear hb5 hF5 ho5 hr5
            have qc0 := hQ.cell 0 rfl
            have qc1 := hQ.cell 1 rfl
            have qc2 := hQ.cell 2 rfl
            have qc3 := hQ.cell 3 rfl
            have qd0 := hQ.frozen 0
            have qd1 := hQ.frozen 1
            have qd2 := hQ.frozen 2
            have qd3 := hQ.frozen 3
            go_wp2_with fail
            rw [HW6.out]
            refine (Set_any A1 a1 q L.length _ hrk).mono ?_
            rw [HRS.out]
            rintro e w7 ⟨rfl, n7, rfl⟩
            go_wp2_with fail
            refine (refClosed_any A A1 c a1 L q _ (ha.fr0 (hF6.drewN _)) (hrk.drewN _) HRI.out HLN.out).mono ?_
            rw [HRC.out]
            rintro e w8 ⟨rfl, hf8⟩
            have hg8 : Fr [] W6 w8 := ((Fr.refl _ _).drewN n7).trans hf8
            have hQ8 := hQ.fr hg8 (by simp)
            have hb8 := hb6.fr hg8 (by simp)
            have hr8 := hrk.fr0 hg8
            have hF8 := hF6.trans hg8
            have ho8 := own_fr ho6 hg8 (by simp)
            clear hf8 hg8 hQ hb6 hrk hF6 qc0 qc1 qc2 qc3 qd0 qd1 qd2 qd3 HW6 ho6
            have qc0 := hQ8.cell 0 rfl
            have qc1 := hQ8.cell 1 rfl
            have qc2 := hQ8.cell 2 rfl
            have qc3 := hQ8.cell 3 rfl
            have qd0 := hQ8.frozen 0
            have qd1 := hQ8.frozen 1
            have qd2 := hQ8.frozen 2
            have qd3 := hQ8.frozen 3
            have e0 := hb8.cell 0 rfl
            have e1 := hb8.cell 1 rfl
            have e2 := hb8.cell 2 rfl
            have e3 := hb8.cell 3 rfl
            go_wp2_with fail
            refine (Say_any _ o A1 a1 q _ (HOV.out.fr0 hF8) hr8 HG.out).mono ?_
            rintro e w9 ⟨rfl, hf9⟩
            have hb9 := hb8.fr hf9 (by simp)
            have ho9 := own_fr ho8 hf9 (by simp)
            have hF9 := hF8.trans hf9
            clear hf9 hQ8 hb8 hr8 hF8 qc0 qc1 qc2 qc3 qd0 qd1 qd2 qd3 e0 e1 e2 e3 ho8
            have hnx := Lib.hid (ans_next hans HQ)
            have hws := hF9.size
            generalize sayO o q = sq at *
            have HO9 := Lib.hid (ho9.alloc (.cells #[.int .u8 sq] 39))
            have HR9 := Lib.hid (Rd.one w9 39 (.int .u8) sq)
            clear ho9
            have hbB : (ans.length + [sq].length) * 1 ≤ 140737488355328 := by simp; omega
            have hbW : w.heap.size ≤ (w9.alloc (.cells #[.int .u8 sq] 39)).heap.size := Nat.le_trans hws (by simp)
            go_wp2_with (at_builtin; refine wpList_append_rd rfl (.tmp 69) (.tmp 74) _ rfl elemVe (.slice A5 ans.length c5) (ans.map (.int .u8)) rfl HO9.out (some ⟨w9.heap.size, 0, none⟩) 1 [sq] (.int .u8) rfl HR9.out one_u8 hbB hbW ?_; intro A10 c10 w10 ho10 hg10 hat10)
            go_roundg t
            case measure => omega
            case rel =>
              have hF10 : Fr [] w w10 := (hF9.alloc _).app HO9.out (Nat.le_refl _) hg10
              have hbA := (hb9.alloc (.cells #[.int .u8 sq] 39)).grown hg10 (fun hk => own_ne_blk HO9.out (hb9.alloc (.cells #[.int .u8 sq] 39)) (by decide) w.heap.size hk.symm rfl)
              exact ⟨ans ++ [sq], A10, c10, hnx, by simp; omega, by simp; omega, by simp, by simpa using ho10, hbA, hF10⟩
      · have hcb : (checkNeeds L != 0) = true := by simpa using hk
        clear hk
        go_enter Tryd.func7, Tryd.ntmps7
        go_wp2_with fail
        rw [HW.out]
        go_wp2_with fail
        refine hgc.mono ?_
        rintro e w1 ⟨rfl, hf1⟩
        have hF1 := hFW.trans hf1
        go_wp2_with fail
        refine (refCheckNeedsV_any A c L _ (ha.fr0 hF1)).mono ?_
        rintro e w2 ⟨rfl, hf2⟩
        go_wp2_with fail
        refine (runs_any _).mono ?_
        rintro e w3 ⟨rfl, hf3⟩
        go_wp2
        go_ret
        exact ⟨rfl, (hF1.trans hf2).trans hf3⟩
    · have hgc := Great_any _ o W (HOV.out.fr0 hFW)
      rw [hg] at hgc
      clear hg
      go_enter Tryd.func7, Tryd.ntmps7
      go_wp2_with fail
      rw [HW.out]
      go_wp2_with fail
      refine hgc.mono ?_
      rintro e w1 ⟨rfl, hf1⟩
      go_wp2_with fail
      refine (runs_any _).mono ?_
      rintro e w3 ⟨rfl, hf3⟩
      go_wp2
      go_ret
      exact ⟨rfl, (hFW.trans hf1).trans hf3⟩
end Go.Proofs.YtjpbmbonccenfaaDoor
