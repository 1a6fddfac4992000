/- Texts of this seat, one behind the other: LSchM. -/
import Derived.Test.YtjpbmbonccenfaaDoort125
import Derived.Test.YtjpbmbonccenfaaDoort119
import Derived.Test.YtjpbmbonccenfaaDoort128
import Derived.Test.YtjpbmbonccenfaaDoort130
import Derived.Test.YtjpbmbonccenfaaDoort127
import Derived.Test.YtjpbmbonccenfaaDoort121
import Derived.Test.YtjpbmbonccenfaaDoort133
/- ReduceScheduleMinimal: the walk. -/
namespace Go.Proofs.YtjpbmbonccenfaaDoor
open Go.RowKit
set_option linter.unusedVariables false

/-- Between two questions. -/
def SMInv (w : World) (g : Nat) (T : List (List Pk)) (say : List Pk → Int) (ov : Array Value) (t : Nat) (v : Value) (wr : World) : Prop :=
  ∃ (ans : List Int) (A : Option Addr) (c : Nat), Hid (ans = (T.take ans.length).map say) ∧ ans.length ≤ T.length ∧ T.length < ans.length + t ∧ v = .slice A ans.length c ∧
    wr.ownsRow w.heap.size 39 1 (.slice A ans.length c) ans.length (ans.map (.int .u8)) ∧ Blk wr g 30 ov ∧ Fr [] w wr
theorem ans_nextP {T : List (List Pk)} {say : List Pk → Int} {ans : List Int} {q : List Pk} (h : Hid (ans = (T.take ans.length).map say)) (hq : Hid (T[ans.length]? = some q)) :
    ans ++ [say q] = (T.take (ans ++ [say q]).length).map say := by
  rw [List.length_append, List.length_singleton, List.take_add_one, hq.out, List.map_append, ← h.out]
  rfl
theorem nf_st {l : List Pk} (h : NF l) (t : Int) : 0 ≤ stepsOf t l ∧ stepsOf t l ≤ 65536 := by
  have := steps_bnd h.val t
  have := h.tot
  omega

set_option maxRecDepth 100000 in
set_option maxHeartbeats 6400000 in
theorem LSchM_any (A : Option Addr) (c : Nat) (ps : List Pk) (v : Value) (o : Orc) (w : World) (ha : Rp w A c ps) (hov : OrcIs w v o) (htab : Tab w) :
    Calls Tryd.prog 6 #[.slice A ps.length c, v] w (RetV w (.bool true)) := by
  have hbd := ha.bound
  obtain ⟨N, n, B, b, rfl, hN, hB, hs, hlo⟩ := id hov
  obtain ⟨W, hW⟩ : ∃ W, W = w.alloc (.cells #[.slice N o.need.length n, .slice B o.bar.length b, .int .u64 o.salt, .int .u8 o.loose] 30) := ⟨_, rfl⟩
  have hFW : Fr [] w W := by rw [hW]; exact (Fr.refl _ _).alloc _
  have hbk : Blk W w.heap.size 30 #[.slice N o.need.length n, .slice B o.bar.length b, .int .u64 o.salt, .int .u8 o.loose] := by rw [hW]; exact Blk.new _ _ _ _ rfl
  have HW := Lib.hid hW.symm
  have HOV := Lib.hid hov
  clear hW hov
  have hNC := refNormalU_any A c ps W (ha.fr0 hFW)
  have HN2 := Lib.hid (fun h => nf_normal (ps := ps) h)
  have HLE := Lib.hid (normal_len ps)
  have HCK : Hid ((normal ps).2 = 0 → Val ps ∧ tot ps ≤ 65536 ∧ ∀ t, stepsOf t (normal ps).1 = stepsOf t ps) := by
    show _ → _
    intro h
    have hck : checkP 0 ps = 0 := by
      unfold normal at h; split at h
      · assumption
      · exact absurd h (by assumption)
    have h1 := check_fine ps 0 hck (by omega)
    exact ⟨h1.1, by omega, fun t => by rw [normal_ok hck]; exact joined_steps ps t⟩
  have ht : ∀ q, told (sayP o q) = sayP o q := sayP_told o
  have HAT : Hid ((normal ps).2 = 0 → (normal ps).1.length ≤ 12 → ∀ k q, (schAsks (normal ps).1 (sayP o))[k]? = some q → scheduleOf ps (((schAsks (normal ps).1 (sayP o)).take k).map (sayP o)) = (⟨false, q⟩, 0) ∧ Kin (normal ps).1 q) :=
    fun h hl k q hq => schAsks_at ht h hl hq
  have HEND : Hid ((normal ps).2 = 0 → (normal ps).1.length ≤ 12 → _) := fun h hl => schAsks_end ht h hl
  have HTL : Hid ((normal ps).2 = 0 → (normal ps).1.length ≤ 12 → (schAsks (normal ps).1 (sayP o)).length ≤ 200) := fun h hl => schAsks_le (nf_normal h) hl
  clear ht
  generalize schAsks (normal ps).1 (sayP o) = T at *
  generalize normal ps = nr at *
  obtain ⟨nl, er⟩ := nr
  simp only at HN2 HLE HCK HAT HEND HTL
  by_cases h12 : 12 < ps.length
  · have d12 : decide (12 < (ps.length : Int)) = true := by simp; omega
    go_enter Tryd.func6, Tryd.ntmps6
    go_wp2_with fail
    rw [HW.out]
    refine hNC.mono ?_
    rintro e w1 ⟨A1, c1, rfl, hf1, hown1⟩
    go_wp2_with fail
    refine (runs_any _).mono ?_
    rintro e w2 ⟨rfl, hf2⟩
    go_wp2
    go_ret
    exact ⟨rfl, (hFW.trans hf1).trans hf2⟩
  · have d12 : decide (12 < (ps.length : Int)) = false := by simp; omega
    go_enter Tryd.func6, Tryd.ntmps6
    go_wp2_with fail
    rw [HW.out]
    refine hNC.mono ?_
    rintro e w1 ⟨A1, c1, rfl, hf1, hown1⟩
    have hF1 := hFW.trans hf1
    have hbk1 := hbk.fr hf1 (by simp)
    have hn1 : Rp w1 A1 c1 nl := (Rp.of_own hown1).2
    have e0 := hbk1.cell 0 rfl
    have e1 := hbk1.cell 1 rfl
    have e2 := hbk1.cell 2 rfl
    have e3 := hbk1.cell 3 rfl
    clear hNC hf1 hown1 hbk HW hFW
    have hgc := Great_any _ o w1 (HOV.out.fr0 hF1)
    rcases hg : greatO o with _ | _
    · have HG := Lib.hid hg
      rw [hg] at hgc
      clear hg
      go_wp2_with fail
      refine hgc.mono ?_
      rintro e w2 ⟨rfl, hf2⟩
      have hF2 := hF1.trans hf2
      have hbk2 := hbk1.fr hf2 (by simp)
      have hn2 := hn1.fr0 hf2
      clear hgc hf2 hbk1 hn1 hF1 e0 e1 e2 e3
      by_cases her : er = 0
      · subst her
        have hNF : NF nl := HN2.out rfl
        have HNF := Lib.hid hNF
        have hln : nl.length ≤ 12 := by have := HLE.out; omega
        have HAT' := Lib.hid (HAT.out rfl hln)
        have HEND' := Lib.hid (HEND.out rfl hln)
        have hTL := HTL.out rfl hln
        have HC := Lib.hid (HCK.out rfl)
        have ha2 := ha.fr0 hF2
        have htab2 := htab.fr hF2
        have hov2 := HOV.out.fr0 hF2
        have HWS := Lib.hid hF2.size
        have hg2 := hbk2.lt
        clear HAT HEND HTL HCK HN2 hNF
        go_wp2_with fail
        have hI : SMInv w2 w.heap.size T (sayP o) #[.slice N o.need.length n, .slice B o.bar.length b, .int .u64 o.salt, .int .u8 o.loose] (T.length + 1) (.slice none 0 0) w2 :=
          ⟨[], none, 0, by show _ = _; simp, Nat.zero_le _, by omega, rfl, World.ownsRow_nil _ _ _ _, hbk2, Fr.refl _ _⟩
        clear hbk2
        go_loopg [7] (T.length + 1) (SMInv w2 w.heap.size T (sayP o) #[.slice N o.need.length n, .slice B o.bar.length b, .int .u64 o.salt, .int .u8 o.loose])
        case atStart => exact hI
        case round =>
          clear hI
          obtain ⟨ans, A5, c5, hans, hle, hgt, rfl, ho5, hb5, hF5⟩ := hrel
          obtain ⟨t, rfl⟩ : ∃ t, gk = t + 1 := ⟨gk - 1, by omega⟩
          have hr5 : Rd wr (.int .u8) A5 c5 ans := (Rd.of_own ho5).2
          have d40 : decide ((ans.length : Int) ≤ 4096) = true := by simp; omega
          have hsc := fun W hp hd ht => Schedule_any A A5 c c5 ps ans W hp (by omega) hd ht
          rcases hq : T[ans.length]? with _ | q
          · have hTl : T.length = ans.length := by have := List.getElem?_eq_none_iff.1 hq; omega
            have hall : ans = T.map (sayP o) := by
              have h1 := hans.out
              rw [List.take_of_length_le (by omega)] at h1
              exact h1
            clear hq hgt
            rcases HEND'.out with ⟨h2, r, hres, hok⟩ | ⟨h2, h1, hres⟩
            · rw [← hall] at hres
              rw [hres] at hsc
              have HOK := Lib.hid hok
              have hrl := hok.kin.len
              have hnq := fun (A : Option Addr) (c : Nat) W h => refNormalU_any A c r W h
              rw [hok.kin.nf.self] at hnq
              have hpq := fun (A : Option Addr) (c : Nat) W h => refPreemptions_any A c r W h (by omega)
              rw [pre_self hok.kin.nf] at hpq
              have hs1 := fun (A : Option Addr) (c : Nat) W h => steps_any A c r W h hok.kin.nf.val hok.kin.nf.tot
              rw [stArr_eq (fun t => (hok.kin.steps t).trans (HC.out.2.2 t))] at hs1
              have hs2 := fun (A : Option Addr) (c : Nat) W h => steps_any A c ps W h HC.out.1 HC.out.2.1
              have hneq := fun W => run_arr_neq ps (fun t => by
                have := nf_st hok.kin.nf t
                rw [hok.kin.steps t, HC.out.2.2 t] at this
                exact this) W
              have HP : Hid (∀ x ∈ preempts r, ∃ k : Nat, x = k ∧ k < r.length ∧ ¬ laterOf r k < 0) := fun x hx => pre_mem hx
              have hsy : sayP o r = 2 := hok.fails
              have HR2 := Lib.hid hsy
              clear hres hok h2 hall HEND' HAT' hans hsy
              generalize preempts r = P at *
              generalize stArr ps = sa at *
              go_wp2_with fail
              refine (hsc _ (ha2.fr0 hF5) hr5 (htab2.fr hF5)).mono ?_
              rintro e w6 ⟨A6, c6, rfl, hf6, hq6⟩
              have hQ := Blk.new w6 51 #[.bool true, .slice A6 r.length c6] _ rfl
              have hrk : Rp _ A6 c6 r := hq6.alloc (.cells #[.bool true, .slice A6 r.length c6] 51)
              have hG6 : Fr [] wr _ := hf6.alloc (.cells #[.bool true, .slice A6 r.length c6] 51)
              obtain ⟨W6, hW6⟩ : ∃ W6, W6 = w6.alloc (.cells #[.bool true, .slice A6 r.length c6] 51) := ⟨_, rfl⟩
              rw [← hW6] at hQ hrk hG6
              have HW6 := Lib.hid hW6.symm
              have qc0 := hQ.cell 0 rfl
              have qc1 := hQ.cell 1 rfl
              clear hf6 hq6 hsc
              have hF6 := hF5.trans hG6
              have hb6 := hb5.fr hG6 (by simp)
              clear hb5 hF5 ho5 hr5
              rw [hW6] at qc0 qc1
              clear hW6
              go_wp2_with fail
              rw [HW6.out]
              refine (hnq A6 c6 _ hrk).mono ?_
              rintro e w7 ⟨A7, c7, rfl, hf7, _⟩
              have hQ7 := hQ.fr hf7 (by simp)
              have hb7 := hb6.fr hf7 (by simp)
              have hr7 := hrk.fr0 hf7
              have hF7 := hF6.trans hf7
              clear hf7 hQ hb6 hrk hF6 qc0 qc1 HW6 hnq
              have qc0 := hQ7.cell 0 rfl
              have qc1 := hQ7.cell 1 rfl
              have e0 := hb7.cell 0 rfl
              have e1 := hb7.cell 1 rfl
              have e2 := hb7.cell 2 rfl
              have e3 := hb7.cell 3 rfl
              go_wp2_with fail
              refine (SayPicks_any _ o A6 c6 r _ (hov2.fr0 hF7) hr7 HG.out HOK.out.kin.nf).mono ?_
              rw [HR2.out]
              rintro e w8 ⟨rfl, hf8⟩
              have hQ8 := hQ7.fr hf8 (by simp)
              have hb8 := hb7.fr hf8 (by simp)
              have hr8 := hr7.fr0 hf8
              have hF8 := hF7.trans hf8
              clear hf8 hQ7 hb7 hr7 hF7 qc0 qc1 e0 e1 e2 e3
              have qc0 := hQ8.cell 0 rfl
              have qc1 := hQ8.cell 1 rfl
              go_wp2_with fail
              refine (hs1 A6 c6 _ hr8).mono ?_
              rintro e w9 ⟨rfl, hf9⟩
              have hQ9 := hQ8.fr hf9 (by simp)
              have hb9 := hb8.fr hf9 (by simp)
              have hr9 := hr8.fr0 hf9
              have hF9 := hF8.trans hf9
              clear hf9 hQ8 hb8 hr8 hF8 qc0 qc1
              go_wp2_with fail
              refine (hs2 A c _ (ha2.fr0 hF9)).mono ?_
              rintro e w10 ⟨rfl, hf10⟩
              have hQ10 := hQ9.fr hf10 (by simp)
              have hb10 := hb9.fr hf10 (by simp)
              have hr10 := hr9.fr0 hf10
              have hF10 := hF9.trans hf10
              have qc0 := hQ10.cell 0 rfl
              have qc1 := hQ10.cell 1 rfl
              clear hf10 hQ9 hb9 hr9 hF9 hs1 hs2
              have dl : decide (nl.length < r.length) = false := by simp; omega
              go_wp2_with fail
              refine (hpq A6 c6 _ hr10).mono ?_
              rintro e w11 ⟨A11, c11, rfl, hf11, ho11⟩
              have hQ11 := hQ10.fr hf11 (by simp)
              have hb11 := hb10.fr hf11 (by simp)
              have hr11 := hr10.fr0 hf11
              have hF11 := hF10.trans hf11
              have hp11 : Rd w11 (.int .i64) A11 c11 P := (Rd.of_own ho11).2
              have hpb := hp11.bound
              clear hf11 hQ10 hb10 hr10 hF10 qc0 qc1 hpq ho11
              go_wp2_with fail
              go_loopw [14] (fun i wr' => ∃ k : Nat, k ≤ P.length ∧ i = .int .i64 k ∧ Fr [] w11 wr') (fun i _ => P.length - (intOf i).toNat)
              case atStart => exact ⟨0, Nat.zero_le _, rfl, Fr.refl _ _⟩
              case round =>
                obtain ⟨k, hk, rfl, hf⟩ := hrel
                have hQk := hQ11.fr hf (by simp)
                have hbk := hb11.fr hf (by simp)
                have hrk := hr11.fr0 hf
                have hFk := hF11.trans hf
                have qc1 := hQk.cell 1 rfl
                by_cases hlt : k < P.length
                · obtain ⟨b7, o7, x, rfl, hx, hc7⟩ := (hp11.fr0 hf).at_ hlt
                  obtain ⟨j, rfl, hjl, hjn⟩ := HP.out x (List.mem_of_getElem? hx.out)
                  have hjq := fun W h => refJoin_any A6 c6 r j W h (by omega)
                  rw [join_self HOK.out.kin.nf hjl (by omega)] at hjq
                  have HNM := Lib.hid (HOK.out.kin.mv (show ¬ laterOf r j < 0 by omega)).nf
                  have hsb : (sayP o (mvdOf r j) == 2) = false := beq_false_of_ne (HOK.out.min j hjl (by omega))
                  have HJ := Lib.hid hjn
                  clear hjn
                  generalize mvdOf r j = mo at *
                  go_wp2_with fail
                  go_region_held3 (fun w' => w'.cell? ⟨w6.heap.size, 1, none⟩ = some (.slice A6 r.length c6) ∧ w'.cell? ⟨b7, o7 + k, none⟩ = some (.int .i64 j))
                    (first
                      | go_keep
                      | exact ⟨hfa.cell (by assumption) (by simp), hfa.cell (by assumption) (by simp)⟩)
                    (first
                      | (go_at_call 39; refine (hjq _ (hrk.fr0 (by repeat (first | exact Fr.refl _ _ | assumption | apply Fr.drewN | apply Fr.drew | apply Fr.alloc | refine Fr.setCell ?_ (by simp) _)))).mono ?_; rintro e w12 ⟨A12, c12, rfl, hfa, ho12⟩; have hFa : Fr [] wr w12 := (Fr.trans (by repeat (first | exact Fr.refl _ _ | assumption | apply Fr.drewN | apply Fr.drew | apply Fr.alloc | refine Fr.setCell ?_ (by simp) _)) hfa)))
                  have hF12 := hFk.trans hFa
                  have hr12 : Rp w12 A12 c12 mo := (Rp.of_own ho12).2
                  have hb12 := hbk.fr hFa (by simp)
                  have e0 := hb12.cell 0 rfl
                  have e1 := hb12.cell 1 rfl
                  have e2 := hb12.cell 2 rfl
                  have e3 := hb12.cell 3 rfl
                  have hG12 := hf.trans hFa
                  clear hfa ho12 hFa qc1 hQk hbk hrk hFk hf hc7 hjq
                  go_wp2_with fail
                  refine (SayPicks_any _ o A12 c12 mo _ (hov2.fr0 hF12) hr12 HG.out HNM.out).mono ?_
                  rintro e w13 ⟨rfl, hf13⟩
                  go_wp2_with fail
                  go_roundw
                  case rel => exact ⟨k + 1, by omega, by go_num, hG12.trans hf13⟩
                  case measure => simp [intOf]; omega
                · go_wp2_with fail
                  refine (runs_any _).mono ?_
                  rintro e w13 ⟨rfl, hf13⟩
                  go_wp2
                  go_ret
                  exact ⟨rfl, (hF2.trans hFk).trans hf13⟩
            · rw [← hall] at hres
              rw [hres] at hsc
              have h1' : ans.length = 1 := by rw [hall, List.length_map]; exact h1
              have hsb : (sayP o nl != 2) = true := by simpa using h2
              have hl1 : ((ans.length : Int) == 1) = true := by simp [h1']
              have hl1' : (ans.length == 1) = true := by simp [h1']
              have H1 := Lib.hid h1'
              clear hres h2 hall HEND' HAT' hans h1 h1'
              go_wp2_with fail
              refine (hsc _ (ha2.fr0 hF5) hr5 (htab2.fr hF5)).mono ?_
              rintro e w6 ⟨A6, c6, rfl, hf6, hq6⟩
              have hF6 := hF5.trans hf6
              have hb6 := hb5.fr hf6 (by simp)
              have HFx : Fr [] w2 (w6.alloc (.cells #[.bool false, .slice A6 0 c6] 51)) := hF6.alloc _
              have hbx := hb6.alloc (.cells #[.bool false, .slice A6 0 c6] 51)
              have hnx := (hn2.fr0 hF6).alloc (.cells #[.bool false, .slice A6 0 c6] 51)
              clear hsc hf6 hb5 hF5 ho5 hr5 hF6 hb6
              have e0 := hbx.cell 0 rfl
              have e1 := hbx.cell 1 rfl
              have e2 := hbx.cell 2 rfl
              have e3 := hbx.cell 3 rfl
              go_wp2_with fail
              refine (SayPicks_any _ o A1 c1 nl _ (hov2.fr0 HFx) hnx HG.out HNF.out).mono ?_
              rintro e w7 ⟨rfl, hf7⟩
              go_wp2_with fail
              refine (runs_any _).mono ?_
              rintro e w8 ⟨rfl, hf8⟩
              go_wp2
              go_ret
              exact ⟨rfl, ((hF2.trans HFx).trans hf7).trans hf8⟩
          · obtain ⟨hres, hkin⟩ := HAT'.out _ _ hq
            rw [← hans.out] at hres
            rw [hres] at hsc
            have HQ := Lib.hid hq
            have hlt2 : ans.length < T.length := (List.getElem?_eq_some_iff.1 hq).1
            have HQN := Lib.hid hkin.nf
            have hql := hkin.len
            have hnq := fun W h => refNormalU_any A5 c5 q W h
            have hnq := fun (A : Option Addr) (c : Nat) W h => refNormalU_any A c q W h
            rw [hkin.nf.self] at hnq
            clear hres hq HEND' HAT' hkin
            go_wp2_with fail
            refine (hsc _ (ha2.fr0 hF5) hr5 (htab2.fr hF5)).mono ?_
            rintro e w6 ⟨A6, c6, rfl, hf6, hq6⟩
            have hQ := Blk.new w6 51 #[.bool false, .slice A6 q.length c6] _ rfl
            have hrk : Rp _ A6 c6 q := hq6.alloc (.cells #[.bool false, .slice A6 q.length c6] 51)
            have hG6 : Fr [] wr _ := hf6.alloc (.cells #[.bool false, .slice A6 q.length c6] 51)
            obtain ⟨W6, hW6⟩ : ∃ W6, W6 = w6.alloc (.cells #[.bool false, .slice A6 q.length c6] 51) := ⟨_, rfl⟩
            rw [← hW6] at hQ hrk hG6
            have HW6 := Lib.hid hW6.symm
            have qc0 := hQ.cell 0 rfl
            have qc1 := hQ.cell 1 rfl
            clear hf6 hq6 hsc
            have hF6 := hF5.trans hG6
            have hb6 := hb5.fr hG6 (by simp)
            have ho6 := own_fr ho5 hG6 (by simp)
            clear hb5 hF5 ho5 hr5
            rw [hW6] at qc0 qc1
            clear hW6
            go_wp2_with fail
            rw [HW6.out]
            refine (hnq A6 c6 _ hrk).mono ?_
            rintro e w7 ⟨A7, c7, rfl, hf7, _⟩
            have hQ7 := hQ.fr hf7 (by simp)
            have hb7 := hb6.fr hf7 (by simp)
            have hr7 := hrk.fr0 hf7
            have hF7 := hF6.trans hf7
            have ho7 := own_fr ho6 hf7 (by simp)
            clear hf7 hQ hb6 hrk hF6 qc0 qc1 ho6 HW6 hnq
            have qc0 := hQ7.cell 0 rfl
            have qc1 := hQ7.cell 1 rfl
            have e0 := hb7.cell 0 rfl
            have e1 := hb7.cell 1 rfl
            have e2 := hb7.cell 2 rfl
            have e3 := hb7.cell 3 rfl
            go_wp2_with fail
            refine (SayPicks_any _ o A6 c6 q _ (hov2.fr0 hF7) hr7 HG.out HQN.out).mono ?_
            rintro e w9 ⟨rfl, hf9⟩
            have hb9 := hb7.fr hf9 (by simp)
            have ho9 := own_fr ho7 hf9 (by simp)
            have hF9 := hF7.trans hf9
            clear hf9 hQ7 hb7 hr7 hF7 qc0 qc1 e0 e1 e2 e3 ho7
            have hnx := Lib.hid (ans_nextP hans HQ)
            have hws := hF9.size
            generalize sayP o q = sq at *
            have HO9 := Lib.hid (ho9.alloc (.cells #[.int .u8 sq] 39))
            have HR9 := Lib.hid (Rd.one w9 39 (.int .u8) sq)
            clear ho9
            have hbB : (ans.length + [sq].length) * 1 ≤ 140737488355328 := by simp; omega
            have hbW : w2.heap.size ≤ (w9.alloc (.cells #[.int .u8 sq] 39)).heap.size := Nat.le_trans hws (by simp)
            go_wp2_with (at_builtin; refine wpList_append_rd rfl (.tmp 72) (.tmp 77) _ rfl elemVe (.slice A5 ans.length c5) (ans.map (.int .u8)) rfl HO9.out (some ⟨w9.heap.size, 0, none⟩) 1 [sq] (.int .u8) rfl HR9.out one_u8 hbB hbW ?_; intro A10 c10 w10 ho10 hg10 hat10)
            go_roundg t
            case measure => omega
            case rel =>
              have hF10 : Fr [] w2 w10 := (hF9.alloc _).app HO9.out (Nat.le_refl _) hg10
              have hbA := (hb9.alloc (.cells #[.int .u8 sq] 39)).grown hg10 (fun hk => own_ne_blk HO9.out (hb9.alloc (.cells #[.int .u8 sq] 39)) (by decide) w.heap.size hk.symm rfl)
              exact ⟨ans ++ [sq], A10, c10, hnx, by simp; omega, by simp; omega, by simp, by simpa using ho10, hbA, hF10⟩
      · have hcb : (er != 0) = true := by simpa using her
        clear her
        go_wp2_with fail
        refine (runs_any _).mono ?_
        rintro e w3 ⟨rfl, hf3⟩
        go_wp2
        go_ret
        exact ⟨rfl, hF2.trans hf3⟩
    · rw [hg] at hgc
      clear hg
      go_wp2_with fail
      refine hgc.mono ?_
      rintro e w2 ⟨rfl, hf2⟩
      go_wp2_with fail
      refine (runs_any _).mono ?_
      rintro e w3 ⟨rfl, hf3⟩
      go_wp2
      go_ret
      exact ⟨rfl, (hF1.trans hf2).trans hf3⟩
end Go.Proofs.YtjpbmbonccenfaaDoor
