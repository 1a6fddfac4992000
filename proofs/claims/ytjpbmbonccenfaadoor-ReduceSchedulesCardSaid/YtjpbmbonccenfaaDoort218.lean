/- Texts of this seat, one behind the other: FailQ. -/
import Derived.Test.YtjpbmbonccenfaaDoort216
import Derived.Test.YtjpbmbonccenfaaDoort217
/- failing of the reference: each schedule once. -/
namespace Go.Proofs.YtjpbmbonccenfaaDoor
open Go.RowKit
set_option linter.unusedVariables false

set_option maxRecDepth 100000 in
set_option maxHeartbeats 3200000 in
theorem failing_any (B bp : Nat) (ans : List Int) (used : Nat) (kn : KnP) (C : Option Addr) (cc : Nat) (q : List Pk) (w : World) (h : PKnQ B w bp ans used kn false []) (hC : Rp w C cc q) (hCs : StayQ B w C) (hkn : kn.length ≤ 1000000) :
    Calls Tryd.prog 99 #[.pointer (some ⟨bp, 0, none⟩), .slice C q.length cc] w (AskPostQ B w bp ans used kn q) := by
  obtain ⟨A, c, S, T, D, d, rows, hh, hr, hna, hrD, hsD, hoS, hoT, hel⟩ := h.ex
  obtain ⟨SA, sc, rfl⟩ := own_form hoS
  obtain ⟨TA, tc, rfl⟩ := own_form hoT
  have c0 := hh.cell 0 rfl
  have c1 := hh.cell 1 rfl
  have c2 := hh.cell 2 rfl
  have c3 := hh.cell 3 rfl
  have f1 := hh.frozen 1
  have f4 := hh.frozen 4
  have f5 := hh.frozen 5
  have c4 := hh.cell 4 rfl
  have c5 := hh.cell 5 rfl
  have HH := Lib.hid hh
  have hlt' := hh.lt
  have hbd := hr.bound
  have hus := h.le
  have hkb : (kn.length : Int) ≤ 9223372036854775807 := by omega
  clear hh
  go_enter Tryd.func99, Tryd.ntmps99
  go_wp2
  go_loopw [5] (fun i wr => ∃ k : Nat, k ≤ kn.length ∧ i = .int .i64 k ∧ Hid (@List.lookup (List Pk) Int instBEqOfDecidableEq q (kn.drop k) = @List.lookup (List Pk) Int instBEqOfDecidableEq q kn) ∧ ∃ n, wr = w.drewN n) (fun i _ => kn.length - (intOf i).toNat)
  case atStart => exact ⟨0, Nat.zero_le _, rfl, rfl, 0, rfl⟩
  case round =>
    obtain ⟨k, hk, rfl, HL, n, rfl⟩ := hrel
    by_cases hlt : k < kn.length
    · obtain ⟨p, hp⟩ : ∃ p, kn[k]? = some p := ⟨kn[k], List.getElem?_eq_getElem hlt⟩
      obtain ⟨A1, c1', hrow, hr1, hs1⟩ := hel k p hp
      obtain ⟨g1, rfl, _, _⟩ := own_some hoS (by omega)
      obtain ⟨g2, rfl, _, _⟩ := own_some hoT (by omega)
      have d1 := (hoS.cellAt k (by omega)).trans hrow
      have d2 := (hoT.cellAt k (by omega)).trans (by rw [List.getElem?_map, hp])
      unfold slValQ at d1
      have hst := lookup_dropQ (q := q) hp
      rw [HL.out] at hst
      have HP := Lib.hid hp
      clear hp hrow
      by_cases he : q = p.1
      · rw [if_pos he] at hst
        have hd : decide (p.1 = q) = true := by simpa using he.symm
        have HS := Lib.hid hst
        clear he hst
        go_wp2_with fail
        refine (SamePicks_any A1 C c1' cc p.1 q _ (hr1.drewN _) (hC.drewN _)).mono ?_
        rintro e w' ⟨rfl, n1, rfl⟩
        go_wp2_with fail
        go_ret
        unfold AskPostQ
        rw [askV_knownP HS.out]
        exact ⟨rfl, (FrQ.refl _ _).drewN _, h.fr0 (by repeat (first | exact Fr.refl _ _ | assumption | apply Fr.drewN | apply Fr.drew | apply Fr.alloc | refine Fr.setCell ?_ (by simp) _))⟩
      · rw [if_neg he] at hst
        have hd : decide (p.1 = q) = false := by simpa using fun h => he h.symm
        have HS := Lib.hid hst
        clear he hst
        go_wp2_with fail
        refine (SamePicks_any A1 C c1' cc p.1 q _ (hr1.drewN _) (hC.drewN _)).mono ?_
        rintro e w' ⟨rfl, n1, rfl⟩
        go_wp2_with fail
        go_roundw
        case rel => exact ⟨k + 1, by omega, by go_num, HS.out.symm, _, by first | rfl | exact World.drewN_drewN ..⟩
        case measure => simp [intOf]; omega
    · have hnone : @List.lookup (List Pk) Int instBEqOfDecidableEq q kn = none := by
        rw [← HL.out, List.drop_of_length_le (by omega)]
        rfl
      have HN := Lib.hid hnone
      clear hnone
      rcases hans : ans[used]? with _ | a
      · have hu : ans.length ≤ used := List.getElem?_eq_none_iff.1 hans
        have HA := Lib.hid hans
        clear hans
        have du : decide (ans.length ≤ used) = true := by simpa using hu
        have du2 : decide ((ans.length : Int) ≤ used) = true := by simp; omega
        go_wp2
        go_quiet (fail)
        go_wp2
        go_ret
        unfold AskPostQ
        rw [askV_askP HN.out HA.out]
        have hF : Fr [bp] w _ := ((((Fr.refl [bp] w).setCell (p := ⟨bp, 4, none⟩) (.inl (by simp)) (.bool true)).setCell (p := ⟨bp, 5, none⟩) (.inl (by simp)) (.slice C q.length cc)).drewN (n + nq))
        have hq : FrQ B w _ := FrQ.of_fr hF (fun k hk => by
          obtain rfl : k = bp := by simpa using hk
          refine ⟨h.base, fun o ho => ?_⟩
          rw [show w.heap[k]? = _ from HH.out] at ho
          injection ho with ho
          subst ho
          exact ⟨_, _, _, rfl, .inr (.inr rfl)⟩)
        have hb : Blk _ bp 129 #[.slice A ans.length c, .int .i64 used, .slice SA kn.length sc, .slice TA kn.length tc, .bool true, .slice C q.length cc] := ((HH.out.set_ 4 (.bool true)).set_ 5 (.slice C q.length cc)).drewN (n + nq)
        refine ⟨rfl, hq, ⟨A, c, _, _, C, cc, rows, hb, FrQ.below hr hna hq, hna, hC.frq hCs hq, hCs.frp hq, own_fr hoS hF (fun k hk => by simpa using own_ne_blk hoS HH.out (by decide) k hk), own_fr hoT hF (fun k hk => by simpa using own_ne_blk hoT HH.out (by decide) k hk), fun k p hp => ?_⟩, h.base, h.le⟩
        obtain ⟨A3, c3, h1, h2, h3⟩ := hel k p hp
        exact ⟨A3, c3, h1, h2.frq h3 hq, h3.frp hq⟩
      · have hu : used < ans.length := (List.getElem?_eq_some_iff.1 hans).1
        have HA := Lib.hid hans
        clear hans
        have du : decide (ans.length ≤ used) = false := by simp; omega
        have du2 : decide ((ans.length : Int) ≤ used) = false := by simp; omega
        obtain ⟨b1, o1, x, rfl, hx, hc⟩ := hr.at_ hu
        obtain rfl : a = x := by have := HA.out.symm.trans hx.out; simpa using this
        go_wp2
        go_quiet (fail)
        go_wp2
        go_quiet ((go_at_call 115; first | exact quiet_of (told_any _ _) | exact quiet_add (told_any _ _)))
        have hbB : (kn.length + [(C, q.length, cc)].length) * 24 ≤ 140737488355328 := by simp; omega
        have hbB2 : (kn.length + [told a].length) * 1 ≤ 140737488355328 := by simp; omega
        have hBw : B ≤ w.heap.size := Nat.le_trans h.base (Nat.le_of_lt hlt')
        have HB1 : Hid (∀ m, Blk (((w.setCell ⟨bp, 1, none⟩ (.int .i64 ((used : Int) + 1))).alloc (.cells #[.slice C q.length cc] 47)).drewN m) bp 129 #[.slice (some ⟨b1, o1, none⟩) ans.length c, .int .i64 ((used : Int) + 1), .slice SA kn.length sc, .slice TA kn.length tc, .bool false, .slice D ([] : List Pk).length d]) :=
          fun m => ((HH.out.set_ 1 (.int .i64 ((used : Int) + 1))).alloc _).drewN m
        have hFs : Fr [bp] w (w.setCell ⟨bp, 1, none⟩ (.int .i64 ((used : Int) + 1))) := (Fr.refl [bp] w).setCell (.inl (by simp)) _
        have HS1 : Hid (∀ m, (((w.setCell ⟨bp, 1, none⟩ (.int .i64 ((used : Int) + 1))).alloc (.cells #[.slice C q.length cc] 47)).drewN m).ownsRow B 47 1 (.slice SA kn.length sc) kn.length rows) :=
          fun m => own_drewN ((own_fr hoS hFs (fun k hk => by simpa using own_ne_blk hoS HH.out (by decide) k hk)).alloc _) m
        have HT1 : Hid (∀ m, (((w.setCell ⟨bp, 1, none⟩ (.int .i64 ((used : Int) + 1))).alloc (.cells #[.slice C q.length cc] 47)).drewN m).ownsRow B 39 1 (.slice TA kn.length tc) kn.length (kn.map fun p => .int .u8 p.2)) :=
          fun m => own_drewN ((own_fr hoT hFs (fun k hk => by simpa using own_ne_blk hoT HH.out (by decide) k hk)).alloc _) m
        have HR1 : Hid (∀ m, Rd (((w.setCell ⟨bp, 1, none⟩ (.int .i64 ((used : Int) + 1))).alloc (.cells #[.slice C q.length cc] 47)).drewN m) encSlQ (some ⟨w.heap.size, 0, none⟩) 1 [(C, q.length, cc)]) :=
          fun m => by
            have := (Rd.one (w.setCell ⟨bp, 1, none⟩ (.int .i64 ((used : Int) + 1))) 47 encSlQ (C, q.length, cc)).drewN m
            simpa [encSlQ] using this
        go_wp2_with (first
          | (at_builtin
             refine wpList_append_rd rfl (.tmp 72) (.tmp 74) _ rfl elemSlQ (.slice SA kn.length sc) rows rfl (HS1.out _) (some ⟨w.heap.size, 0, none⟩) 1 [(C, q.length, cc)] encSlQ rfl (HR1.out _) (fun _ => rfl) hbB (by simp; omega) ?_
             intro A3 c3' w3 hown3 hg3 hat3
             have hb3 := (HB1.out _).grown hg3 (fun hk => own_ne_blk (HS1.out 0) (HB1.out 0) (by decide) bp hk.symm rfl)
             have g2 := hb3.cell 2 rfl
             have g2f := hb3.frozen 2
             have g3 := hb3.cell 3 rfl
             have g3f := hb3.frozen 3
             have hT3 := own_fr (HT1.out _) (frOfGrown hg3) (fun k hk hm => own_ne_own (HT1.out 0) (HS1.out 0) (by decide) k hk (by simpa using hm))
             have hset : Fr [bp] w3 (w3.setCell ⟨bp, 2, none⟩ (.slice A3 (kn.length + 1) c3')) := (Fr.refl [bp] w3).setCell (.inl (by simp)) _
             have hS4 := own_fr hown3 hset (fun k hk => by simpa using own_ne_blk hown3 hb3 (by decide) k hk)
             have hT4 := own_fr hT3 hset (fun k hk => by simpa using own_ne_blk hT3 hb3 (by decide) k hk)
             have hb4 : Blk (w3.setCell ⟨bp, 2, none⟩ (.slice A3 (kn.length + 1) c3')) bp 129 #[.slice (some ⟨b1, o1, none⟩) ans.length c, .int .i64 ((used : Int) + 1), .slice A3 (kn.length + 1) c3', .slice TA kn.length tc, .bool false, .slice D ([] : List Pk).length d] := hb3.set_ 2 (.slice A3 (kn.length + 1) c3')
             have hz3 : w.heap.size ≤ w3.heap.size := by have := hg3.size; simp at this; omega)
          | (at_builtin
             go_loud (refine wpList_append_rd rfl (.tmp 82) (.tmp 84) _ rfl elemVe (.slice TA kn.length tc) (kn.map fun p => .int .u8 p.2) rfl (hT4.alloc _) (some ⟨w3.heap.size, 0, none⟩) 1 [told a] (.int .u8) rfl (by have := Rd.one (w3.setCell ⟨bp, 2, none⟩ (.slice A3 (kn.length + 1) c3')) 39 (.int .u8) (told a); simpa using this) one_u8 hbB2 (by simp; omega) ?_)
             intro A5 c5' w5 hown5 hg5 hat5
             have hb5 := (hb4.alloc (.cells #[.int .u8 (told a)] 39)).grown hg5 (fun hk => own_ne_blk hT4 hb4 (by decide) bp hk.symm rfl)
             have k3 := hb5.cell 3 rfl
             have k3f := hb5.frozen 3))
        go_ret
        unfold AskPostQ
        rw [askV_gotP HN.out HA.out]
        have h1 : ∀ m, Fr (bp :: ((Value.slice SA kn.length sc).ownBlock.toList ++ (Value.slice TA kn.length tc).ownBlock.toList)) w (((w.setCell ⟨bp, 1, none⟩ (.int .i64 ((used : Int) + 1))).alloc (.cells #[.slice C q.length cc] 47)).drewN m) := fun m => (((Fr.refl _ w).setCell (p := ⟨bp, 1, none⟩) (.inl (by simp)) (.int .i64 ((used : Int) + 1))).alloc (.cells #[.slice C q.length cc] 47)).drewN m
        have h2 := (h1 _).grown hg3 (fun k hk => .inl (by simp [hk]))
        have h3 := h2.setCell (p := ⟨bp, 2, none⟩) (.inl (by simp)) (.slice A3 (kn.length + 1) c3')
        have h4 := (h3.alloc (.cells #[.int .u8 (told a)] 39)).grown hg5 (fun k hk => .inl (by simp [hk]))
        have hfa := h4.setCell (p := ⟨bp, 3, none⟩) (.inl (by simp)) (.slice A5 (kn.length + 1) c5')
        have hfq : FrQ B w _ := FrQ.of_fr hfa (by
          intro k hk
          simp only [List.mem_cons, List.mem_append, Option.mem_toList] at hk
          rcases hk with rfl | hk | hk
          · refine ⟨h.base, fun o ho => ?_⟩
            rw [show w.heap[k]? = _ from HH.out] at ho
            injection ho with ho
            subst ho
            exact ⟨_, _, _, rfl, .inr (.inr rfl)⟩
          · exact own_playTyQ hoS (.inl rfl) k hk
          · exact own_playTyQ hoT (.inr rfl) k hk)
        have hset5 : Fr [bp] w5 (w5.setCell ⟨bp, 3, none⟩ (.slice A5 (kn.length + 1) c5')) := (Fr.refl [bp] w5).setCell (.inl (by simp)) _
        have hS5 := own_fr (hS4.alloc (.cells #[.int .u8 (told a)] 39)) (frOfGrown hg5) (fun k hk hm => own_ne_own (hS4.alloc (.cells #[.int .u8 (told a)] 39)) (hT4.alloc (.cells #[.int .u8 (told a)] 39)) (by decide) k hk (by simpa using hm))
        have hS6 := own_fr hS5 hset5 (fun k hk => by simpa using own_ne_blk hS5 hb5 (by decide) k hk)
        have hT6 := own_fr hown5 hset5 (fun k hk => by simpa using own_ne_blk hown5 hb5 (by decide) k hk)
        have hb6 : Blk (w5.setCell ⟨bp, 3, none⟩ (.slice A5 (kn.length + 1) c5')) bp 129 #[.slice (some ⟨b1, o1, none⟩) ans.length c, .int .i64 (used + 1 : Nat), .slice A3 (kn ++ [(q, told a)]).length c3', .slice A5 (kn ++ [(q, told a)]).length c5', .bool false, .slice D ([] : List Pk).length d] := by
          have := hb5.set_ 3 (.slice A5 (kn.length + 1) c5')
          simpa using this
        refine ⟨rfl, hfq, ⟨_, c, .slice A3 (kn ++ [(q, told a)]).length c3', .slice A5 (kn ++ [(q, told a)]).length c5', D, d, rows ++ [slValQ C q cc], hb6, FrQ.below hr hna hfq, hna, hrD.frq hsD hfq, hsD.frp hfq, ?_, ?_, fun k p hp => ?_⟩, h.base, hu⟩
        · simpa [encSlQ, slValQ] using hS6
        · simpa using hT6
        · have hrl : rows.length = kn.length := by have := hoS.1; omega
          by_cases hk : k < kn.length
          · rw [List.getElem?_append_left hk] at hp
            obtain ⟨A', c', g1, g2, g3⟩ := hel k p hp
            exact ⟨A', c', by rw [List.getElem?_append_left (by omega)]; exact g1, g2.frq g3 hfq, g3.frp hfq⟩
          · have hke : k = kn.length := by
              have := (List.getElem?_eq_some_iff.1 hp).1
              simp at this
              omega
            subst hke
            simp at hp
            subst hp
            exact ⟨C, cc, by rw [← hrl]; simp, hC.frq hCs hfq, hCs.frp hfq⟩
end Go.Proofs.YtjpbmbonccenfaaDoor
