/- Texts of this seat, one behind the other: LRem. -/
import Derived.Test.YtjpbmbonccenfaaDoorZRem30
import Derived.Test.YtjpbmbonccenfaaDoorZRem31
import Derived.Test.YtjpbmbonccenfaaDoorZRem32
/- ReduceRemovable: the walk. (under way) -/
namespace Go.Proofs.YtjpbmbonccenfaaDoor
open Go.RowKit
set_option linter.unusedVariables false

/-- Between two elements. -/
def RemInv (w : World) (kept : List Int) (o : List Int → Int) (ov : Array Value) (v i : Value) (wr : World) : Prop :=
  ∃ (k : Nat) (ans : List Int) (A : Option Addr) (c : Nat), k ≤ kept.length ∧ i = .int .i64 k ∧ v = .slice A ans.length c ∧ Hid (ans = (remQ kept k).map o) ∧ Hid (∀ q ∈ remQ kept k, o q ≠ 2) ∧ Hid (ans.length = k) ∧
    wr.ownsRow w.heap.size 39 1 (.slice A ans.length c) ans.length (ans.map (.int .u8)) ∧ Blk wr w.heap.size 30 ov ∧ Fr [] w wr

set_option maxRecDepth 100000 in
set_option maxHeartbeats 6400000 in
theorem LRem_any (A : Option Addr) (c : Nat) (kept : List Int) (v : Value) (o : Orc) (w : World) (ha : Rd w (.int .i64) A c kept) (hov : OrcIs w v o) (htab : Tab w) :
    Calls Tryd.prog 4 #[v, .slice A kept.length c] w (RetV w (.bool true)) := by
  have hbd := ha.bound
  obtain ⟨N, n, B, b, rfl, hN, hB, hs, hlo⟩ := id hov
  obtain ⟨W, hW⟩ : ∃ W, W = w.alloc (.cells #[.slice N o.need.length n, .slice B o.bar.length b, .int .u64 o.salt, .int .u8 o.loose] 30) := ⟨_, rfl⟩
  have hFW : Fr [] w W := by rw [hW]; exact (Fr.refl _ _).alloc _
  have hbk : Blk W w.heap.size 30 #[.slice N o.need.length n, .slice B o.bar.length b, .int .u64 o.salt, .int .u8 o.loose] := by rw [hW]; exact Blk.new _ _ _ _ rfl
  have HOV := Lib.hid hov
  have x0 := (Blk.new w 30 #[.slice N o.need.length n, .slice B o.bar.length b, .int .u64 o.salt, .int .u8 o.loose] _ rfl).cell 0 rfl
  have x1 := (Blk.new w 30 #[.slice N o.need.length n, .slice B o.bar.length b, .int .u64 o.salt, .int .u8 o.loose] _ rfl).cell 1 rfl
  have x2 := (Blk.new w 30 #[.slice N o.need.length n, .slice B o.bar.length b, .int .u64 o.salt, .int .u8 o.loose] _ rfl).cell 2 rfl
  have x3 := (Blk.new w 30 #[.slice N o.need.length n, .slice B o.bar.length b, .int .u64 o.salt, .int .u8 o.loose] _ rfl).cell 3 rfl
  have HW := Lib.hid hW.symm
  clear hW hov
  have hgc := Great_any _ o W (HOV.out.fr0 hFW)
  by_cases h12 : 12 < kept.length
  · go_enter Tryd.func4, Tryd.ntmps4
    go_wp2_with fail
    rw [HW.out]
    refine (awake_any _ (htab.fr hFW)).mono ?_
    rintro e w2 ⟨rfl, hf2⟩
    go_wp2
    go_ret
    exact ⟨rfl, hFW.trans hf2⟩
  · have d12 : decide (12 < (kept.length : Int)) = false := by simp; omega
    rcases hg : greatO o with _ | _
    · rw [hg] at hgc
      have HG := Lib.hid hg
      clear hg
      rcases hset : isSet 256 kept with _ | _
      · go_enter Tryd.func4, Tryd.ntmps4
        go_wp2_with fail
        rw [HW.out]
        refine hgc.mono ?_
        rintro e w1 ⟨rfl, hf1⟩
        go_wp2_with fail
        refine (Set_any A c kept 256 _ ((ha.fr0 hFW).fr0 hf1)).mono ?_
        rw [hset]
        rintro e w2 ⟨rfl, n2, rfl⟩
        go_wp2_with fail
        refine (awake_any _ (htab.fr ((hFW.trans hf1).drewN _))).mono ?_
        rintro e w3 ⟨rfl, hf3⟩
        go_wp2
        go_ret
        exact ⟨rfl, ((hFW.trans hf1).drewN _).trans hf3⟩
      · have ht : ∀ q, told (sayO o q) = sayO o q := sayO_told o
        have HNX : Hid (∀ (k : Nat) (x : Int), kept[k]? = some x → (∀ q ∈ remQ kept k, sayO o q ≠ 2) → removableOf kept ((remQ kept k).map (sayO o)) = (⟨false, minus kept [x], [], []⟩, 0)) := fun k x hx h => rem_next ht hset hx h
        have HFD : Hid (∀ (k : Nat) (x : Int), kept[k]? = some x → (∀ q ∈ remQ kept k, sayO o q ≠ 2) → sayO o (minus kept [x]) = 2 → removableOf kept ((remQ kept (k + 1)).map (sayO o)) = (⟨true, [], [x], []⟩, 0)) := fun k x hx h hf => rem_found ht hset hx h hf
        have HNO : Hid ((∀ q ∈ remQ kept kept.length, sayO o q ≠ 2) → removableOf kept ((remQ kept kept.length).map (sayO o)) = (⟨true, [], [], []⟩, 0)) := fun h => rem_none ht hset h
        have hst := Set_any A c kept 256
        rw [hset] at hst
        clear hset ht
        go_enter Tryd.func4, Tryd.ntmps4
        go_wp2_with fail
        rw [HW.out]
        refine hgc.mono ?_
        rintro e w1 ⟨rfl, hf1⟩
        go_wp2_with fail
        refine (hst _ ((ha.fr0 hFW).fr0 hf1)).mono ?_
        rintro e w2 ⟨rfl, n2, rfl⟩
        have hF2 := (hFW.trans hf1).drewN n2
        have hb2 := (hbk.fr hf1 (by simp)).drewN n2
        clear hgc hst hf1 hFW hbk HW x0 x1 x2 x3
        generalize w1.drewN n2 = W2 at *
        go_wp2_with fail
        go_loopw [5, 6] (RemInv w kept (sayO o) #[.slice N o.need.length n, .slice B o.bar.length b, .int .u64 o.salt, .int .u8 o.loose]) (fun _ i _ => kept.length - (intOf i).toNat)
        case atStart => exact ⟨0, [], none, 0, Nat.zero_le _, rfl, rfl, rfl, by show ∀ q ∈ remQ kept 0, _; simp [remQ], rfl, World.ownsRow_nil _ _ _ _, hb2, hF2⟩
        case round =>
          clear hF2 hb2
          obtain ⟨k, ans, A1, c1, hk, rfl, rfl, hans, hne, hlen, hown, hbk, hF⟩ := hrel
          have hr1 : Rd wr (.int .u8) A1 c1 ans := (Rd.of_own hown).2
          by_cases hlt : k < kept.length
          · obtain ⟨b0, o0, x, rfl, hx, hc⟩ := (ha.fr0 hF).at_ hlt
            have hnx := Lib.hid (HNX.out k x hx.out hne.out)
            rw [← hans.out] at hnx
            go_wp2_with fail
            refine (Removable_any _ A1 c c1 kept ans _ (ha.fr0 hF) hr1 (htab.fr hF)).mono ?_
            rw [hnx.out]
            rintro e w6 ⟨v6, rfl, hf6, A2, a2, B2, b2, C2, c2, rfl, ⟨hq1, _⟩, ⟨hq2, _⟩, hq3, _⟩
            have hQ := (Blk.new w6 34 #[.bool false, .slice A2 (minus kept [x]).length a2, .slice B2 0 b2, .slice C2 0 c2] _ rfl).alloc (.cells #[.int .i64 x] 3)
            have hF6 := hF.trans hf6
            have HZ6 := Lib.hid hF6.size
            have hcx := ((hf6.alloc (.cells #[.bool false, .slice A2 (minus kept [x]).length a2, .slice B2 0 b2, .slice C2 0 c2] 34)).cell hc (by simp))
            have hbx : b0 < w6.heap.size := World.block_lt_of_cell? w6 _ (hf6.cell hc (by simp))
            have hrk := ((ha.fr0 hF6).alloc (.cells #[.bool false, .slice A2 (minus kept [x]).length a2, .slice B2 0 b2, .slice C2 0 c2] 34)).alloc (.cells #[.int .i64 x] 3)
            go_wp2_with fail
            refine (Minus_any _ _ c 1 kept [x] _ hrk (Rd.lit (w6.alloc (.cells #[.bool false, .slice A2 (minus kept [x]).length a2, .slice B2 0 b2, .slice C2 0 c2] 34)) 3 (.int .i64) [x] (w6.heap.size + 1) (by simp) (by simp)) (by omega)).mono ?_
            simp only [RetOwn, List.length_map]
            rintro e w7 ⟨A7, c7, rfl, hf7, ho7⟩
            have hQ7 := hQ.fr hf7 (by simp)
            have hF67 : Fr [] w6 w7 := (((Fr.refl [] w6).alloc (.cells #[.bool false, .slice A2 (minus kept [x]).length a2, .slice B2 0 b2, .slice C2 0 c2] 34)).alloc (.cells #[.int .i64 x] 3)).trans hf7
            have hq7 := hq1.fr0 hF67
            have hr7 : Rd w7 (.int .i64) A7 c7 (minus kept [x]) := (Rd.of_own ho7).2
            have hF7 := hF6.trans hF67
            have hb7 := (hbk.fr hf6 (by simp)).fr hF67 (by simp)
            have hown7 := own_fr (own_fr hown hf6 (by simp)) hF67 (by simp)
            have hxx := Lib.hid hx.out
            clear hQ hF6 hcx hrk hf7 ho7 hq1 hq2 hq3 hf6 hF67 hbk hown hr1 hnx hc
            generalize hqe : minus kept [x] = q at *
            have HQE := Lib.hid hqe
            clear hqe
            have qc0 := hQ7.cell 0 rfl
            have qc1 := hQ7.cell 1 rfl
            have qc2 := hQ7.cell 2 rfl
            have qc3 := hQ7.cell 3 rfl
            have qd0 := hQ7.frozen 0
            have qd1 := hQ7.frozen 1
            have qd2 := hQ7.frozen 2
            have qd3 := hQ7.frozen 3
            have dl : decide (q = q) = true := by simp
            go_wp2_with fail
            refine (lawints_any A2 A7 a2 c7 q q _ hq7 hr7).mono ?_
            rintro e w8 ⟨rfl, n8, rfl⟩
            have e0 := hb7.cell 0 rfl
            have e1 := hb7.cell 1 rfl
            have e2 := hb7.cell 2 rfl
            have e3 := hb7.cell 3 rfl
            go_wp2_with fail
            refine (Say_any _ o A7 c7 q _ (HOV.out.fr0 (hF7.drewN n8)) (hr7.drewN n8) HG.out).mono ?_
            rintro e w9 ⟨rfl, hf9⟩
            have hF9 := (hF7.drewN n8).trans hf9
            have hQ9 := (hQ7.drewN n8).fr hf9 (by simp)
            have hb9 := (hb7.drewN n8).fr hf9 (by simp)
            have ho9 := own_fr (own_drewN hown7 n8) hf9 (by simp)
            have hnxt : Hid (ans ++ [sayO o q] = (remQ kept (k + 1)).map (sayO o)) := by show _ = _; rw [remQ_succ hxx.out, List.map_append, ← hans.out, HQE.out]; rfl
            have hws := hF9.size
            clear hQ7 hb7 hown7 hF7 hr7 hq7 qc0 qc1 qc2 qc3 qd0 qd1 qd2 qd3 e0 e1 e2 e3 dl
            generalize hsq : sayO o q = sq at *
            have HSQ := Lib.hid hsq
            clear hsq
            have hk12 : ans.length ≤ 12 := by have := hlen.out; omega
            have HO9 := Lib.hid (ho9.alloc (.cells #[.int .u8 sq] 39))
            have HR9 := Lib.hid (Rd.one w9 39 (.int .u8) sq)
            clear ho9
            have hbB : (ans.length + [sq].length) * 1 ≤ 140737488355328 := by simp; omega
            have hbW : w.heap.size ≤ (w9.alloc (.cells #[.int .u8 sq] 39)).heap.size := Nat.le_trans hws (by simp)
            by_cases h2 : sq = 2
            · have hb2 : (sq == 2) = true := by simp [h2]
              have hfd := Lib.hid (HFD.out k x hxx.out hne.out (by rw [HQE.out, HSQ.out]; exact h2))
              rw [← hnxt.out] at hfd
              clear h2
              have qc0 := hQ9.cell 0 rfl
              have qc1 := hQ9.cell 1 rfl
              have qc2 := hQ9.cell 2 rfl
              have qc3 := hQ9.cell 3 rfl
              have qd0 := hQ9.frozen 0
              have qd1 := hQ9.frozen 1
              have qd2 := hQ9.frozen 2
              have qd3 := hQ9.frozen 3
              go_wp2_with (at_builtin; refine wpList_append_rd rfl (.tmp 61) (.tmp 63) _ rfl elemVe (.slice A1 ans.length c1) (ans.map (.int .u8)) rfl HO9.out (some ⟨w9.heap.size, 0, none⟩) 1 [sq] (.int .u8) rfl HR9.out one_u8 hbB hbW ?_; intro A10 c10 w10 ho10 hg10 hat10)
              have hF10 : Fr [] w w10 := (hF9.alloc _).app HO9.out (Nat.le_refl _) hg10
              have hQ10 := (hQ9.alloc (.cells #[.int .u8 sq] 39)).grown hg10 (fun hk => own_ne_blk HO9.out (hQ9.alloc (.cells #[.int .u8 sq] 39)) (by decide) w6.heap.size hk.symm rfl)
              obtain ⟨an2, hal⟩ : ∃ l, l = ans ++ [sq] := ⟨_, rfl⟩
              have hal2 : an2.length = ans.length + 1 := by rw [hal]; simp
              have hr10 : Rd w10 (.int .u8) A10 c10 an2 := by rw [hal]; exact own_rd ho10 (by simp) (by simp)
              have hb10 := (hb9.alloc (.cells #[.int .u8 sq] 39)).grown hg10 (fun hk => own_ne_blk HO9.out (hb9.alloc (.cells #[.int .u8 sq] 39)) (by decide) w.heap.size hk.symm rfl)
              rw [← hal] at hfd
              have hrm := Removable_any (some ⟨b0, o0, none⟩) A10 c c10 kept an2 _ (ha.fr0 hF10) hr10 (htab.fr hF10)
              rw [hfd.out, hal2] at hrm
              refine hrm.mono ?_
              rintro e w11 ⟨v11, rfl, hf11, A3, a3, B3, b3, C3, c3, rfl, ⟨hp1, _⟩, ⟨hp2, _⟩, hp3, _⟩
              have hQ11 := hQ10.fr hf11 (by simp)
              have hF11 := hF10.trans hf11
              have hp2x : Rd w11 (.int .i64) B3 b3 [x] := hp2
              clear hQ10 hf11 hr10 hrm hg10 ho10 hat10 hb10 hQ9 hb9
              clear qc0 qc1 qc2 qc3 qd0 qd1 qd2 qd3
              have qc0 := hQ11.cell 0 rfl
              have qc1 := hQ11.cell 1 rfl
              have qc2 := hQ11.cell 2 rfl
              have qc3 := hQ11.cell 3 rfl
              have qd0 := hQ11.frozen 0
              have qd1 := hQ11.frozen 1
              have qd2 := hQ11.frozen 2
              have qd3 := hQ11.frozen 3
              have hcx := (ha.fr0 hF11).get_ hxx.out
              have hmx : Tryd.prog.follows .mixedOrders = true := by kernel_rfl
              have dx : decide ([x] = [x]) = true := by simp
              go_wp2_with fail
              have hF12 := fr_four (S := []) hF11 (.inr HZ6.out) (.bool true) (.slice A3 0 a3) (.slice B3 1 b3) (.slice C3 0 c3)
              have hQ12 := hQ11.four (.bool true) (.slice A3 0 a3) (.slice B3 1 b3) (.slice C3 0 c3)
              have hp12 := hp2x.four (hp2x.apartQ hQ11) (.bool true) (.slice A3 0 a3) (.slice B3 1 b3) (.slice C3 0 c3)
              clear hcx qc0 qc1 qc2 qc3 qd0 qd1 qd2 qd3 hQ11 hp2x hp1 hp2 hp3 hF11 hF10
              generalize ((((w11.setCell ⟨w6.heap.size, 0, none⟩ (.bool true)).setCell ⟨w6.heap.size, 1, none⟩ (.slice A3 0 a3)).setCell ⟨w6.heap.size, 2, none⟩ (.slice B3 1 b3)).setCell ⟨w6.heap.size, 3, none⟩ (.slice C3 0 c3)) = W12 at *
              have hcx := (ha.fr0 hF12).get_ hxx.out
              have q0 := hQ12.cell 0 rfl
              have q2 := hQ12.cell 2 rfl
              go_region_held3 (fun w' => w'.cell? ⟨w6.heap.size, 0, none⟩ = some (.bool true) ∧ w'.cell? ⟨w6.heap.size, 2, none⟩ = some (.slice B3 1 b3) ∧ w'.cell? ⟨b0, o0 + k, none⟩ = some (.int .i64 x))
                (first
                  | go_keep
                  | exact ⟨hFa.cell q0 (by simp), hFa.cell q2 (by simp), hFa.cell hcx (by simp)⟩
                  | exact ⟨hFb.cell q0 (by simp), hFb.cell q2 (by simp), hFb.cell hcx (by simp)⟩)
                (first
                  | (go_at_call 18; refine (lawints_any B3 _ b3 1 [x] [x] _ (hp12.fr0 (by repeat (first | exact Fr.refl _ _ | assumption | apply Fr.drewN | apply Fr.drew | apply Fr.alloc | refine Fr.setCell ?_ (by simp) _))) (Rd.lit W12.drew 3 (.int .i64) [x] _ rfl (by simp))).mono ?_; rintro e w13 ⟨rfl, n13, rfl⟩; have hFa : Fr [] W12 ((W12.drew.alloc (.cells #[.int .i64 x] 3)).drewN n13) := (by repeat (first | exact Fr.refl _ _ | assumption | apply Fr.drewN | apply Fr.drew | apply Fr.alloc | refine Fr.setCell ?_ (by simp) _)))
                  | (go_at_call 15; refine (awake_any _ (htab.fr (hF12.trans (by repeat (first | exact Fr.refl _ _ | assumption | apply Fr.drewN | apply Fr.drew | apply Fr.alloc | refine Fr.setCell ?_ (by simp) _))))).mono ?_; rintro e w14 ⟨rfl, hfb⟩; have hFb : Fr [] W12 w14 := (Fr.trans (by repeat (first | exact Fr.refl _ _ | assumption | apply Fr.drewN | apply Fr.drew | apply Fr.alloc | refine Fr.setCell ?_ (by simp) _)) hfb)))

              all_goals (go_wp2; go_ret; exact ⟨rfl, hF12.trans (by first | exact hFb | exact (by repeat (first | exact Fr.refl _ _ | assumption | apply Fr.drewN | apply Fr.drew | apply Fr.alloc | refine Fr.setCell ?_ (by simp) _)))⟩)
            · have hb2 : (sq == 2) = false := by simpa using h2
              have hne2 : Hid (∀ q' ∈ remQ kept (k + 1), sayO o q' ≠ 2) := by
                show ∀ q' ∈ remQ kept (k + 1), sayO o q' ≠ 2
                intro q' hq'
                rw [remQ_succ hxx.out] at hq'
                rcases List.mem_append.1 hq' with h | h
                · exact hne.out q' h
                · simp at h
                  rw [h, HQE.out, HSQ.out]
                  exact h2
              clear h2
              go_wp2_with (at_builtin; refine wpList_append_rd rfl (.tmp 61) (.tmp 63) _ rfl elemVe (.slice A1 ans.length c1) (ans.map (.int .u8)) rfl HO9.out (some ⟨w9.heap.size, 0, none⟩) 1 [sq] (.int .u8) rfl HR9.out one_u8 hbB hbW ?_; intro A10 c10 w10 ho10 hg10 hat10)
              go_roundw
              case rel =>
                have hF10 : Fr [] w w10 := (hF9.alloc _).app HO9.out (Nat.le_refl _) hg10
                have hbA := (hb9.alloc (.cells #[.int .u8 sq] 39)).grown hg10 (fun hk => own_ne_blk HO9.out (hb9.alloc (.cells #[.int .u8 sq] 39)) (by decide) w.heap.size hk.symm rfl)
                exact ⟨k + 1, ans ++ [sq], A10, c10, by omega, by go_num, by simp, hnxt, hne2, by show _ = _; simp [hlen.out], by simpa using ho10, hbA, hF10⟩
              case measure => simp [intOf]; omega
          · obtain rfl : k = kept.length := by omega
            have hno := Lib.hid (HNO.out hne.out)
            rw [← hans.out] at hno
            go_wp2_with fail
            refine (Removable_any A A1 c c1 kept ans _ (ha.fr0 hF) hr1 (htab.fr hF)).mono ?_
            rw [hno.out]
            rintro e w6 ⟨v6, rfl, hf6, A2, a2, B2, b2, C2, c2, rfl, ⟨hq1, _⟩, ⟨hq2, _⟩, hq3, _⟩
            have hFx : Fr [] w (w6.alloc (.cells #[.bool true, .slice A2 0 a2, .slice B2 0 b2, .slice C2 0 c2] 34)) := (hF.trans hf6).alloc _
            go_wp2_with fail
            refine (awake_any _ (htab.fr hFx)).mono ?_
            rintro e w7 ⟨rfl, hf7⟩
            go_wp2
            go_ret
            exact ⟨rfl, hFx.trans hf7⟩
    · rw [hg] at hgc
      clear hg
      go_enter Tryd.func4, Tryd.ntmps4
      go_wp2_with fail
      rw [HW.out]
      refine hgc.mono ?_
      rintro e w1 ⟨rfl, hf1⟩
      go_wp2_with fail
      refine (awake_any _ (htab.fr (hFW.trans hf1))).mono ?_
      rintro e w3 ⟨rfl, hf3⟩
      go_wp2
      go_ret
      exact ⟨rfl, (hFW.trans hf1).trans hf3⟩
end Go.Proofs.YtjpbmbonccenfaaDoor
