/- Texts of this seat, one behind the other: Node, CNode, SameT. -/
import Derived.Test.YtippadnbngcjlaaGreatDoorh11
import Derived.Test.YtippadnbngcjlaaGreatDoorh13
import Derived.Deep.RegionHeld3
namespace Go.Proofs.YtippadnbngcjlaaGreatDoor
set_option linter.unusedVariables false

/- node of the reference. -/
section
open Go.RowKit
set_option maxRecDepth 20000 in
set_option maxHeartbeats 6400000 in
theorem refnode_any (A : Option Addr) (c : Nat) (g : List Ru) (hgl : g.length ≤ 1000) (n : Nat) : ∀ (t : T) (v : Value) (S : Nat → Prop) (w : World), RRu w A c g → RT S n w v t →
    Calls Tryz.prog 16 #[.agg #[.slice A g.length c], v] w (RetV w (.int .i64 (nodeErr g t))) := by
  induction n with
  | zero => intro t v S w _ h; obtain ⟨_, _, _, h⟩ := h; exact absurd h id
  | succ n ih =>
    intro t v S w ha h
    obtain ⟨AT, cT, rfl, hR⟩ := h
    have hR : RowsB S (fun A c x => RH S n w A c x) w AT cT t.slots := hR
    have hl1 := hR.bound
    by_cases hk0 : t.kind < 0
    · have hE := Lib.hid (node_none (ruleAt_neg (g := g) (t := t) (.inl hk0)))
      have hd : decide (t.kind < 0) = true := by simp [hk0]
      go_enter Tryz.func16, Tryz.ntmps16
      go_wp2
      go_ret
      rw [hE.out]
      exact ⟨rfl, frx⟩
    have hd0 : decide (t.kind < 0) = false := by simp; omega
    by_cases hk1 : (g.length : Int) ≤ t.kind
    · have hE := Lib.hid (node_none (ruleAt_neg (g := g) (t := t) (.inr hk1)))
      have hd : decide ((g.length : Int) ≤ t.kind) = true := by simp [hk1]
      go_enter Tryz.func16, Tryz.ntmps16
      go_wp2
      go_ret
      rw [hE.out]
      exact ⟨rfl, frx⟩
    obtain ⟨kk, hkk⟩ : ∃ kk : Nat, t.kind = kk := ⟨t.kind.toNat, by omega⟩
    have hkl : kk < g.length := by omega
    have hd3 : decide ((kk : Int) < 0) = false := by simp
    have hd1 : decide (g.length ≤ kk) = false := by simp; omega
    clear hd0 hk0 hk1
    obtain ⟨b, off, r, A1, c1, rfl, hr, e0, e1, e2, e3, hSl⟩ := ha.at_ (k := kk) (by omega)
    have hru := Lib.hid (ruleAt_in hkk hr)
    have hsb := hSl.bound
    have HK := Lib.hid hkk
    rw [hkk]
    clear hkk
    obtain ⟨W3, hW3⟩ : ∃ W, W = ((w.alloc (.cells #[.slice (some ⟨b, off, none⟩) g.length c] 24)).alloc (.cells #[.int .i64 kk, .string t.text, .slice AT t.slots.length cT] 27)).alloc (.cells #[.string r.before, .string r.after, .bool r.leaf, .slice A1 r.slots.length c1] 51) := ⟨_, rfl⟩
    have hF3 : Fr [] w W3 := by rw [hW3]; exact frx
    have hB1 : Blk W3 w.heap.size 24 #[.slice (some ⟨b, off, none⟩) g.length c] := by rw [hW3]; exact ((Blk.new w _ _ _ rfl).alloc _).alloc _
    have hB2 : Blk W3 (w.heap.size + 1) 27 #[.int .i64 kk, .string t.text, .slice AT t.slots.length cT] := by rw [hW3]; exact (Blk.new _ _ _ _ (by simp)).alloc _
    have hB3 : Blk W3 (w.heap.size + 1 + 1) 51 #[.string r.before, .string r.after, .bool r.leaf, .slice A1 r.slots.length c1] := by rw [hW3]; exact Blk.new _ _ _ _ (by simp)
    have e0 := fun o1 o2 => (((Fr.refl [] w).alloc o1).alloc o2).cell e0 (by simp)
    have e1 := fun o1 o2 => (((Fr.refl [] w).alloc o1).alloc o2).cell e1 (by simp)
    have e2 := fun o1 o2 => (((Fr.refl [] w).alloc o1).alloc o2).cell e2 (by simp)
    have e3 := fun o1 o2 => (((Fr.refl [] w).alloc o1).alloc o2).cell e3 (by simp)
    have p1 := hB2.cell 1 rfl
    have p2 := hB2.cell 2 rfl
    have r2 := hB3.cell 2 rfl
    have r3 := hB3.cell 3 rfl
    have HW3 := Lib.hid hW3.symm
    rw [hW3] at p1 p2 r2 r3
    clear hW3
    by_cases ht : 16 < t.text.size
    · have hE := Lib.hid (node_long hru.out ht)
      have hd : decide (16 < (t.text.size : Int)) = true := by simp; omega
      go_enter Tryz.func16, Tryz.ntmps16
      go_wp2
      go_ret
      rw [hE.out]
      exact ⟨rfl, frx⟩
    have hd2 : decide (16 < (t.text.size : Int)) = false := by simp; omega
    rcases hb2 : (((!t.text.toList.isEmpty) && !r.leaf) || (t.slots.length : Int) != r.slots.length) with _ | _
    rotate_left
    · have hE := Lib.hid (node_leaf hru.out ht hb2)
      have hcs : (t.text.toList.isEmpty = false ∧ r.leaf = false) ∨ (t.text.toList.isEmpty = true ∧ ((t.slots.length : Int) != r.slots.length) = true) ∨ (t.text.toList.isEmpty = false ∧ r.leaf = true ∧ ((t.slots.length : Int) != r.slots.length) = true) := by
        revert hb2
        generalize t.text.toList.isEmpty = a
        generalize r.leaf = b
        generalize ((t.slots.length : Int) != r.slots.length) = c
        cases a <;> cases b <;> cases c <;> simp
      clear hb2
      rcases hcs with ⟨hx1, hx2⟩ | ⟨hx1, hx3⟩ | ⟨hx1, hx2, hx3⟩
      all_goals
        go_enter Tryz.func16, Tryz.ntmps16
        go_wp2
        go_ret
        rw [hE.out]
        exact ⟨rfl, frx⟩
    have hlen : Hid (t.slots.length = r.slots.length) := by
      show _ = _
      have h3 := (Bool.or_eq_false_iff.1 hb2).2
      simp at h3
      omega
    have hON : Hid (badRows r.slots t.slots = false → nodeErr g t = fold2 (nodeX g) 0 t.slots) := fun h => node_on hru.out ht hb2 h
    have hBAD : Hid (badRows r.slots t.slots = true → nodeErr g t = 1) := fun h => node_bad hru.out ht hb2 h
    have hb3 := Bool.or_eq_false_iff.1 hb2
    have hx3 := hb3.2
    have hb4 := hb3.1
    clear hb2 hb3 ht
    have hcs : t.text.toList.isEmpty = true ∨ (t.text.toList.isEmpty = false ∧ r.leaf = true) := by
      revert hb4
      generalize t.text.toList.isEmpty = a
      generalize r.leaf = b
      cases a <;> cases b <;> simp
    clear hb4
    rcases hcs with hx1 | ⟨hx1, hx2⟩
    all_goals
      (try (rw [hx2] at HW3 hB3 r2 p1 p2 r3 e2))
      go_enter Tryz.func16, Tryz.ntmps16
      go_wp2_with fail
      rw [HW3.out]
      clear p1 p2 r2 r3 e0 e1 e2 e3
      go_loopw [6] (fun i wr => ∃ k : Nat, k ≤ r.slots.length ∧ i = .int .i64 k ∧ Hid (FineTo r.slots t.slots k) ∧ Blk wr w.heap.size 24 #[.slice (some ⟨b, off, none⟩) g.length c] ∧ Blk wr (w.heap.size + 1) 27 #[.int .i64 kk, .string t.text, .slice AT t.slots.length cT] ∧
        (∃ lf, Blk wr (w.heap.size + 1 + 1) 51 #[.string r.before, .string r.after, .bool lf, .slice A1 r.slots.length c1]) ∧ Fr [] w wr) (fun i _ => r.slots.length - (intOf i).toNat)
      case atStart => exact ⟨0, Nat.zero_le _, rfl, FineTo.start _ _, hB1, hB2, ⟨_, hB3⟩, hF3⟩
      case round =>
        clear hB1 hB2 hB3 hF3
        obtain ⟨k, hk, rfl, hfine, hB1, hB2, ⟨lf, hB3⟩, hf⟩ := hrel
        have p2 := hB2.cell 2 rfl
        have r3 := hB3.cell 3 rfl
        by_cases hlt : k < r.slots.length
        · obtain ⟨b2, off2, s, A4, c4, rfl, hs, hm, s0, s1, hks, s2⟩ := (hSl.fr0 hf).at_ hlt
          obtain ⟨b4, off4, q, A5, c5, rfl, hq, hc, hRow, hlq⟩ := hR.at_ (i := k) (by rw [hlen.out]; exact hlt)
          have hkt : k < t.slots.length := by rw [hlen.out]; exact hlt
          have hc := hf.cell hc (by simp)
          obtain ⟨mv, hmv⟩ : ∃ mv, s.many = mv := ⟨_, rfl⟩
          have HMV := Lib.hid hmv
          rw [hmv] at hm s0
          clear hmv
          have hcs : (mv = 0 ∧ (q.length : Int) ≠ 1) ∨ (mv = 1 ∧ 1 < q.length) ∨ ((mv = 0 ∧ q.length = 1) ∨ (mv = 1 ∧ ¬ 1 < q.length) ∨ (¬ mv = 0 ∧ ¬ mv = 1)) := by omega
          rcases hcs with ⟨hv0, hq1⟩ | ⟨hv1, hq1⟩ | hcs
          · have hE := Lib.hid (hBAD.out (bad_yes hs hq (row_bad1 (by rw [HMV.out]; exact hv0) hq1)))
            subst hv0
            have hd : ((q.length : Int) != 1) = true := by simpa using hq1
            go_wp2
            go_ret
            rw [hE.out]
            exact ⟨rfl, hf⟩
          · have hE := Lib.hid (hBAD.out (bad_yes hs hq (row_bad2 (by rw [HMV.out]; exact hv1) hq1)))
            subst hv1
            have hd : decide (1 < q.length) = true := by simpa using hq1
            go_wp2
            go_ret
            rw [hE.out]
            exact ⟨rfl, hf⟩
          · have h1 : Hid (s.many = 0 → q.length = 1) := fun h => by rw [HMV.out] at h; omega
            have h2 : Hid (s.many = 1 → q.length ≤ 1) := fun h => by rw [HMV.out] at h; omega
            rcases hcs with ⟨hv0, hq1⟩ | ⟨hv1, hq1⟩ | ⟨hv0, hv1⟩
            · subst hv0
              have hd : ((q.length : Int) != 1) = false := by simp [hq1]
              have hq1 := Lib.hid hq1
              have g1 : ((0 : Int) == 1) = false := rfl
              go_wp2_with fail
              have hB1' := hB1
              have hB2' := hB2
              have hB3' := hB3
              have hf' := hf
              go_loopw [8] (fun j w2 => ∃ m : Nat, m ≤ q.length ∧ j = .int .i64 m ∧ Hid (∀ y ∈ q.take m, y.kind ∈ s.kinds) ∧ ∃ d, w2 = wr.drewN d) (fun j _ => q.length - (intOf j).toNat)
              case atStart => exact ⟨0, Nat.zero_le _, rfl, by intro y hy; simp at hy, 0, rfl⟩
              case round =>
                clear hB1' hB2' hB3' hf'
                obtain ⟨m, hm', rfl, hall, d, rfl⟩ := hrel
                by_cases hlt2 : m < q.length
                · obtain ⟨b6, off6, x, A6, c6, rfl, hx, e0, e1, e2, hX⟩ := hRow.at_ hlt2
                  have e0 := hf.cell e0 (by simp)
                  by_cases hmem : x.kind ∈ s.kinds
                  · have hnx := Lib.hid (kinds_next hall.out hx hmem)
                    have hd9 : decide (x.kind ∈ s.kinds) = true := by simpa using hmem
                    have hmem := Lib.hid hmem
                    go_wp2
                    go_quiet ((go_at_call 41; first | exact quiet_of (Has_any _ _ s.kinds x.kind _ (hks.drewN _)) | exact quiet_add (Has_any _ _ s.kinds x.kind _ (hks.drewN _))))
                    go_wp2
                    go_roundw
                    case rel => exact ⟨m + 1, by omega, by go_num, hnx, _, by first | rfl | exact World.drewN_drewN ..⟩
                    case measure => simp [intOf]; omega
                  · have hE := Lib.hid (hBAD.out (bad_yes hs hq (row_bad3 hx hmem)))
                    have hd9 : decide (x.kind ∈ s.kinds) = false := by simpa using hmem
                    have hmem := Lib.hid hmem
                    go_wp2
                    go_quiet ((go_at_call 41; first | exact quiet_of (Has_any _ _ s.kinds x.kind _ (hks.drewN _)) | exact quiet_add (Has_any _ _ s.kinds x.kind _ (hks.drewN _))))
                    go_wp2
                    go_ret
                    rw [hE.out]
                    exact ⟨rfl, (hf.drewN _).drewN _⟩
                · have hfn : Hid (FineTo r.slots t.slots (k + 1)) := hfine.out.next hs hq (row_fine h1.out h2.out (by have := hall.out; rw [List.take_of_length_le (by omega)] at this; exact this))
                  go_wp2
                  go_roundw
                  case rel => exact ⟨k + 1, by omega, by go_num, hfn, hB1.drewN _, hB2.drewN _, ⟨lf, hB3.drewN _⟩, hf.drewN _⟩
                  case measure => simp [intOf]; omega
            · subst hv1
              have hd : decide (1 < q.length) = false := by simpa using hq1
              have hq1 := Lib.hid hq1
              go_wp2_with fail
              have hB1' := hB1
              have hB2' := hB2
              have hB3' := hB3
              have hf' := hf
              go_loopw [8] (fun j w2 => ∃ m : Nat, m ≤ q.length ∧ j = .int .i64 m ∧ Hid (∀ y ∈ q.take m, y.kind ∈ s.kinds) ∧ ∃ d, w2 = wr.drewN d) (fun j _ => q.length - (intOf j).toNat)
              case atStart => exact ⟨0, Nat.zero_le _, rfl, by intro y hy; simp at hy, 0, rfl⟩
              case round =>
                clear hB1' hB2' hB3' hf'
                obtain ⟨m, hm', rfl, hall, d, rfl⟩ := hrel
                by_cases hlt2 : m < q.length
                · obtain ⟨b6, off6, x, A6, c6, rfl, hx, e0, e1, e2, hX⟩ := hRow.at_ hlt2
                  have e0 := hf.cell e0 (by simp)
                  by_cases hmem : x.kind ∈ s.kinds
                  · have hnx := Lib.hid (kinds_next hall.out hx hmem)
                    have hd9 : decide (x.kind ∈ s.kinds) = true := by simpa using hmem
                    have hmem := Lib.hid hmem
                    go_wp2
                    go_quiet ((go_at_call 41; first | exact quiet_of (Has_any _ _ s.kinds x.kind _ (hks.drewN _)) | exact quiet_add (Has_any _ _ s.kinds x.kind _ (hks.drewN _))))
                    go_wp2
                    go_roundw
                    case rel => exact ⟨m + 1, by omega, by go_num, hnx, _, by first | rfl | exact World.drewN_drewN ..⟩
                    case measure => simp [intOf]; omega
                  · have hE := Lib.hid (hBAD.out (bad_yes hs hq (row_bad3 hx hmem)))
                    have hd9 : decide (x.kind ∈ s.kinds) = false := by simpa using hmem
                    have hmem := Lib.hid hmem
                    go_wp2
                    go_quiet ((go_at_call 41; first | exact quiet_of (Has_any _ _ s.kinds x.kind _ (hks.drewN _)) | exact quiet_add (Has_any _ _ s.kinds x.kind _ (hks.drewN _))))
                    go_wp2
                    go_ret
                    rw [hE.out]
                    exact ⟨rfl, (hf.drewN _).drewN _⟩
                · have hfn : Hid (FineTo r.slots t.slots (k + 1)) := hfine.out.next hs hq (row_fine h1.out h2.out (by have := hall.out; rw [List.take_of_length_le (by omega)] at this; exact this))
                  go_wp2
                  go_roundw
                  case rel => exact ⟨k + 1, by omega, by go_num, hfn, hB1.drewN _, hB2.drewN _, ⟨lf, hB3.drewN _⟩, hf.drewN _⟩
                  case measure => simp [intOf]; omega
            · have hd1 : (mv == 0) = false := by simpa using hv0
              have hd2 : (mv == 1) = false := by simpa using hv1
              have hv0 := Lib.hid hv0
              have hv1 := Lib.hid hv1
              go_wp2_with fail
              have hB1' := hB1
              have hB2' := hB2
              have hB3' := hB3
              have hf' := hf
              go_loopw [8] (fun j w2 => ∃ m : Nat, m ≤ q.length ∧ j = .int .i64 m ∧ Hid (∀ y ∈ q.take m, y.kind ∈ s.kinds) ∧ ∃ d, w2 = wr.drewN d) (fun j _ => q.length - (intOf j).toNat)
              case atStart => exact ⟨0, Nat.zero_le _, rfl, by intro y hy; simp at hy, 0, rfl⟩
              case round =>
                clear hB1' hB2' hB3' hf'
                obtain ⟨m, hm', rfl, hall, d, rfl⟩ := hrel
                by_cases hlt2 : m < q.length
                · obtain ⟨b6, off6, x, A6, c6, rfl, hx, e0, e1, e2, hX⟩ := hRow.at_ hlt2
                  have e0 := hf.cell e0 (by simp)
                  by_cases hmem : x.kind ∈ s.kinds
                  · have hnx := Lib.hid (kinds_next hall.out hx hmem)
                    have hd9 : decide (x.kind ∈ s.kinds) = true := by simpa using hmem
                    have hmem := Lib.hid hmem
                    go_wp2
                    go_quiet ((go_at_call 41; first | exact quiet_of (Has_any _ _ s.kinds x.kind _ (hks.drewN _)) | exact quiet_add (Has_any _ _ s.kinds x.kind _ (hks.drewN _))))
                    go_wp2
                    go_roundw
                    case rel => exact ⟨m + 1, by omega, by go_num, hnx, _, by first | rfl | exact World.drewN_drewN ..⟩
                    case measure => simp [intOf]; omega
                  · have hE := Lib.hid (hBAD.out (bad_yes hs hq (row_bad3 hx hmem)))
                    have hd9 : decide (x.kind ∈ s.kinds) = false := by simpa using hmem
                    have hmem := Lib.hid hmem
                    go_wp2
                    go_quiet ((go_at_call 41; first | exact quiet_of (Has_any _ _ s.kinds x.kind _ (hks.drewN _)) | exact quiet_add (Has_any _ _ s.kinds x.kind _ (hks.drewN _))))
                    go_wp2
                    go_ret
                    rw [hE.out]
                    exact ⟨rfl, (hf.drewN _).drewN _⟩
                · have hfn : Hid (FineTo r.slots t.slots (k + 1)) := hfine.out.next hs hq (row_fine h1.out h2.out (by have := hall.out; rw [List.take_of_length_le (by omega)] at this; exact this))
                  go_wp2
                  go_roundw
                  case rel => exact ⟨k + 1, by omega, by go_num, hfn, hB1.drewN _, hB2.drewN _, ⟨lf, hB3.drewN _⟩, hf.drewN _⟩
                  case measure => simp [intOf]; omega
        · have hE := Lib.hid (hON.out (hfine.out.done (by rw [hlen.out]; omega)))
          have hB1' := hB1
          have hB2' := hB2
          have hf' := hf
          go_wp2_with fail
          clear hlt
          go_loopw [9] (fun i wr => ∃ k : Nat, k ≤ t.slots.length ∧ i = .int .i64 k ∧ Hid (fold2 (nodeX g) 0 (t.slots.take k) = 0) ∧ Blk wr w.heap.size 24 #[.slice (some ⟨b, off, none⟩) g.length c] ∧ Blk wr (w.heap.size + 1) 27 #[.int .i64 kk, .string t.text, .slice AT t.slots.length cT] ∧ Fr [] w wr) (fun i _ => t.slots.length - (intOf i).toNat)
          case atStart => exact ⟨0, Nat.zero_le _, rfl, rfl, hB1', hB2', hf'⟩
          case round =>
            clear hB1' hB2' hf' hB1 hB2 hB3 hf p2 r3
            obtain ⟨k, hk, rfl, hz, hB1, hB2, hf⟩ := hrel
            have q0 := hB1.cell 0 rfl
            have p2 := hB2.cell 2 rfl
            by_cases hlt : k < t.slots.length
            · obtain ⟨b4, off4, q, A5, c5, rfl, hq, hc, hRow, hlq⟩ := hR.at_ hlt
              have hc := hf.cell hc (by simp)
              have hB1' := hB1
              have hB2' := hB2
              have hf' := hf
              go_wp2_with fail
              go_loopw [10] (fun j wr => ∃ m : Nat, m ≤ q.length ∧ j = .int .i64 m ∧ Hid ((q.take m).foldl (nodeX g) (fold2 (nodeX g) 0 (t.slots.take k)) = 0) ∧ Blk wr w.heap.size 24 #[.slice (some ⟨b, off, none⟩) g.length c] ∧ Blk wr (w.heap.size + 1) 27 #[.int .i64 kk, .string t.text, .slice (some ⟨b4, off4, none⟩) t.slots.length cT] ∧ Fr [] w wr) (fun j _ => q.length - (intOf j).toNat)
              case atStart => exact ⟨0, Nat.zero_le _, rfl, hz, hB1', hB2', hf'⟩
              case round =>
                clear hB1' hB2' hf' hB1 hB2 hf p2 q0 hc
                obtain ⟨m, hm, rfl, hzm, hB1, hB2, hf⟩ := hrel
                have q0 := hB1.cell 0 rfl
                have p2 := hB2.cell 2 rfl
                have hc := hf.cell (‹w.cell? ⟨b4, off4 + k, none⟩ = _›) (by simp)
                by_cases hlt2 : m < q.length
                · obtain ⟨b6, off6, x, A6, c6, rfl, hx, e0, e1, e2, hX⟩ := hRow.at_ hlt2
                  have e0 := hf.cell e0 (by simp)
                  have e1 := hf.cell e1 (by simp)
                  have e2 := hf.cell e2 (by simp)
                  have hcut : Hid (nodeErr g x ≠ 0 → fold2 (nodeX g) 0 t.slots = nodeErr g x) := fun h => err_cut hq hx hzm.out h
                  have hnxt : Hid (nodeErr g x = 0 → (q.take (m + 1)).foldl (nodeX g) (fold2 (nodeX g) 0 (t.slots.take k)) = 0) := fun h => err_zero hx hzm.out h
                  obtain ⟨ev, hev⟩ : ∃ ev, nodeErr g x = ev := ⟨_, rfl⟩
                  rw [hev] at hcut hnxt
                  have HEV := Lib.hid hev
                  clear hev
                  go_wp2_with fail
                  go_region_held3 (fun w' => w'.cell? ⟨w.heap.size, 0, none⟩ = some (.slice (some ⟨b, off, none⟩) g.length c) ∧ w'.cell? ⟨w.heap.size + 1, 2, none⟩ = some (.slice (some ⟨b4, off4, none⟩) t.slots.length cT) ∧ w'.cell? ⟨b4, off4 + k, none⟩ = some (.slice (some ⟨b6, off6, none⟩) q.length c5) ∧ w'.cell? ⟨b6, off6 + m * 3, none⟩ = some (.int .i64 x.kind) ∧ w'.cell? ⟨b6, off6 + m * 3 + 1, none⟩ = some (.string x.text) ∧ w'.cell? ⟨b6, off6 + m * 3 + 2, none⟩ = some (.slice A6 x.slots.length c6))
                    (first
                      | (go_keep; done)
                      | exact ⟨hFa.cell q0 (by simp), hFa.cell p2 (by simp), hFa.cell hc (by simp), hFa.cell e0 (by simp), hFa.cell e1 (by simp), hFa.cell e2 (by simp)⟩)
                    (first
                      | (go_at_call 16; refine (ih x _ S _ (ha.fr0 (Fr.trans hf frx)) ⟨A6, c6, rfl, hX.fr0 (Fr.trans hf frx)⟩).mono ?_; rw [HEV.out]; rintro e wa ⟨rfl, hfa⟩; have hFa : Fr [] wr wa := (Fr.trans frx hfa)))
                  by_cases hez : ev = 0
                  · have hzn := Lib.hid (hnxt.out hez)
                    subst hez
                    go_wp2_with fail
                    go_roundw
                    case rel => exact ⟨m + 1, by omega, by go_num, hzn, hB1.fr hFa (by simp), hB2.fr hFa (by simp), hf.trans hFa⟩
                    case measure => simp [intOf]; omega
                  · have hEE := Lib.hid (hcut.out hez)
                    have hd : (ev != 0) = true := by simpa using hez
                    have hez := Lib.hid hez
                    go_wp2_with fail
                    go_ret
                    rw [hE.out, hEE.out]
                    exact ⟨rfl, hf.trans hFa⟩
                · have hzn : Hid (fold2 (nodeX g) 0 (t.slots.take (k + 1)) = 0) := by
                    have := hzm.out
                    rw [List.take_of_length_le (show q.length ≤ m by omega)] at this
                    show _ = _
                    rw [fold2_take hq]
                    exact this
                  go_wp2
                  go_roundw
                  case rel => exact ⟨k + 1, by omega, by go_num, hzn, hB1, hB2, hf⟩
                  case measure => simp [intOf]; omega
            · have hEE : Hid (fold2 (nodeX g) 0 t.slots = 0) := by
                have := hz.out
                rw [List.take_of_length_le (by omega)] at this
                exact this
              go_wp2
              go_ret
              rw [hE.out, hEE.out]
              exact ⟨rfl, hf⟩
end

/- checkNode of the program. -/
section
open Go.RowKit
set_option maxRecDepth 20000 in
set_option maxHeartbeats 6400000 in
theorem checkNode_any (A : Option Addr) (c : Nat) (g : List Ru) (hgl : g.length ≤ 1000) (n : Nat) : ∀ (t : T) (v : Value) (S : Nat → Prop) (w : World), RRu w A c g → RT S n w v t →
    Calls Tryz.prog 55 #[.agg #[.slice A g.length c], v] w (RetV w (.int .i64 (nodeErr g t))) := by
  induction n with
  | zero => intro t v S w _ h; obtain ⟨_, _, _, h⟩ := h; exact absurd h id
  | succ n ih =>
    intro t v S w ha h
    obtain ⟨AT, cT, rfl, hR⟩ := h
    have hR : RowsB S (fun A c x => RH S n w A c x) w AT cT t.slots := hR
    have hl1 := hR.bound
    by_cases hk0 : t.kind < 0
    · have hE := Lib.hid (node_none (ruleAt_neg (g := g) (t := t) (.inl hk0)))
      have hd : decide (t.kind < 0) = true := by simp [hk0]
      go_enter Tryz.func55, Tryz.ntmps55
      go_wp2
      go_ret
      rw [hE.out]
      exact ⟨rfl, frx⟩
    have hd0 : decide (t.kind < 0) = false := by simp; omega
    by_cases hk1 : (g.length : Int) ≤ t.kind
    · have hE := Lib.hid (node_none (ruleAt_neg (g := g) (t := t) (.inr hk1)))
      have hd : decide ((g.length : Int) ≤ t.kind) = true := by simp [hk1]
      go_enter Tryz.func55, Tryz.ntmps55
      go_wp2
      go_ret
      rw [hE.out]
      exact ⟨rfl, frx⟩
    obtain ⟨kk, hkk⟩ : ∃ kk : Nat, t.kind = kk := ⟨t.kind.toNat, by omega⟩
    have hkl : kk < g.length := by omega
    have hd3 : decide ((kk : Int) < 0) = false := by simp
    have hd1 : decide (g.length ≤ kk) = false := by simp; omega
    clear hd0 hk0 hk1
    obtain ⟨b, off, r, A1, c1, rfl, hr, e0, e1, e2, e3, hSl⟩ := ha.at_ (k := kk) (by omega)
    have hru := Lib.hid (ruleAt_in hkk hr)
    have hsb := hSl.bound
    have HK := Lib.hid hkk
    rw [hkk]
    clear hkk
    obtain ⟨W3, hW3⟩ : ∃ W, W = ((w.alloc (.cells #[.slice (some ⟨b, off, none⟩) g.length c] 24)).alloc (.cells #[.int .i64 kk, .string t.text, .slice AT t.slots.length cT] 27)).alloc (.cells #[.string r.before, .string r.after, .bool r.leaf, .slice A1 r.slots.length c1] 51) := ⟨_, rfl⟩
    have hF3 : Fr [] w W3 := by rw [hW3]; exact frx
    have hB1 : Blk W3 w.heap.size 24 #[.slice (some ⟨b, off, none⟩) g.length c] := by rw [hW3]; exact ((Blk.new w _ _ _ rfl).alloc _).alloc _
    have hB2 : Blk W3 (w.heap.size + 1) 27 #[.int .i64 kk, .string t.text, .slice AT t.slots.length cT] := by rw [hW3]; exact (Blk.new _ _ _ _ (by simp)).alloc _
    have hB3 : Blk W3 (w.heap.size + 1 + 1) 51 #[.string r.before, .string r.after, .bool r.leaf, .slice A1 r.slots.length c1] := by rw [hW3]; exact Blk.new _ _ _ _ (by simp)
    have e0 := fun o1 o2 => (((Fr.refl [] w).alloc o1).alloc o2).cell e0 (by simp)
    have e1 := fun o1 o2 => (((Fr.refl [] w).alloc o1).alloc o2).cell e1 (by simp)
    have e2 := fun o1 o2 => (((Fr.refl [] w).alloc o1).alloc o2).cell e2 (by simp)
    have e3 := fun o1 o2 => (((Fr.refl [] w).alloc o1).alloc o2).cell e3 (by simp)
    have p1 := hB2.cell 1 rfl
    have p2 := hB2.cell 2 rfl
    have r2 := hB3.cell 2 rfl
    have r3 := hB3.cell 3 rfl
    have HW3 := Lib.hid hW3.symm
    rw [hW3] at p1 p2 r2 r3
    clear hW3
    by_cases ht : 16 < t.text.size
    · have hE := Lib.hid (node_long hru.out ht)
      have hd : decide (16 < (t.text.size : Int)) = true := by simp; omega
      go_enter Tryz.func55, Tryz.ntmps55
      go_wp2
      go_ret
      rw [hE.out]
      exact ⟨rfl, frx⟩
    have hd2 : decide (16 < (t.text.size : Int)) = false := by simp; omega
    rcases hb2 : (((!t.text.toList.isEmpty) && !r.leaf) || (t.slots.length : Int) != r.slots.length) with _ | _
    rotate_left
    · have hE := Lib.hid (node_leaf hru.out ht hb2)
      have hcs : (t.text.toList.isEmpty = false ∧ r.leaf = false) ∨ (t.text.toList.isEmpty = true ∧ ((t.slots.length : Int) != r.slots.length) = true) ∨ (t.text.toList.isEmpty = false ∧ r.leaf = true ∧ ((t.slots.length : Int) != r.slots.length) = true) := by
        revert hb2
        generalize t.text.toList.isEmpty = a
        generalize r.leaf = b
        generalize ((t.slots.length : Int) != r.slots.length) = c
        cases a <;> cases b <;> cases c <;> simp
      clear hb2
      rcases hcs with ⟨hx1, hx2⟩ | ⟨hx1, hx3⟩ | ⟨hx1, hx2, hx3⟩
      all_goals
        go_enter Tryz.func55, Tryz.ntmps55
        go_wp2
        go_ret
        rw [hE.out]
        exact ⟨rfl, frx⟩
    have hlen : Hid (t.slots.length = r.slots.length) := by
      show _ = _
      have h3 := (Bool.or_eq_false_iff.1 hb2).2
      simp at h3
      omega
    have hON : Hid (badRows r.slots t.slots = false → nodeErr g t = fold2 (nodeX g) 0 t.slots) := fun h => node_on hru.out ht hb2 h
    have hBAD : Hid (badRows r.slots t.slots = true → nodeErr g t = 1) := fun h => node_bad hru.out ht hb2 h
    have hb3 := Bool.or_eq_false_iff.1 hb2
    have hx3 := hb3.2
    have hb4 := hb3.1
    clear hb2 hb3 ht
    have hcs : t.text.toList.isEmpty = true ∨ (t.text.toList.isEmpty = false ∧ r.leaf = true) := by
      revert hb4
      generalize t.text.toList.isEmpty = a
      generalize r.leaf = b
      cases a <;> cases b <;> simp
    clear hb4
    rcases hcs with hx1 | ⟨hx1, hx2⟩
    all_goals
      (try (rw [hx2] at HW3 hB3 r2 p1 p2 r3 e2))
      go_enter Tryz.func55, Tryz.ntmps55
      go_wp2_with fail
      rw [HW3.out]
      clear p1 p2 r2 r3 e0 e1 e2 e3
      go_loopw [57] (fun i wr => ∃ k : Nat, k ≤ t.slots.length ∧ i = .int .i64 k ∧ Hid (FineTo r.slots t.slots k) ∧ Blk wr w.heap.size 24 #[.slice (some ⟨b, off, none⟩) g.length c] ∧ Blk wr (w.heap.size + 1) 27 #[.int .i64 kk, .string t.text, .slice AT t.slots.length cT] ∧
        (∃ lf, Blk wr (w.heap.size + 1 + 1) 51 #[.string r.before, .string r.after, .bool lf, .slice A1 r.slots.length c1]) ∧ Fr [] w wr) (fun i _ => t.slots.length - (intOf i).toNat)
      case atStart => exact ⟨0, Nat.zero_le _, rfl, FineTo.start _ _, hB1, hB2, ⟨_, hB3⟩, hF3⟩
      case round =>
        clear hB1 hB2 hB3 hF3
        obtain ⟨k, hk, rfl, hfine, hB1, hB2, ⟨lf, hB3⟩, hf⟩ := hrel
        have p2 := hB2.cell 2 rfl
        have r3 := hB3.cell 3 rfl
        by_cases hkt : k < t.slots.length
        · have hlt : k < r.slots.length := by rw [← hlen.out]; exact hkt
          obtain ⟨b2, off2, s, A4, c4, rfl, hs, hm, s0, s1, hks, s2⟩ := (hSl.fr0 hf).at_ hlt
          obtain ⟨b4, off4, q, A5, c5, rfl, hq, hc, hRow, hlq⟩ := hR.at_ (i := k) (by rw [hlen.out]; exact hlt)
          obtain ⟨WS, hWS⟩ : ∃ W, W = wr.alloc (.cells #[.int .u8 s.many, .slice A4 s.kinds.length c4, .string s.between] 55) := ⟨_, rfl⟩
          have hfS : Fr [] wr WS := by rw [hWS]; exact frx
          have hBS : Blk WS wr.heap.size 55 #[.int .u8 s.many, .slice A4 s.kinds.length c4, .string s.between] := by rw [hWS]; exact Blk.new _ _ _ _ rfl
          have hFS := hf.trans hfS
          have hB1S := hB1.fr hfS (by simp)
          have hB2S := hB2.fr hfS (by simp)
          have hB3S := hB3.fr hfS (by simp)
          have hksS := hks.fr0 hfS
          have hc := hf.cell hc (by simp)
          obtain ⟨mv, hmv⟩ : ∃ mv, s.many = mv := ⟨_, rfl⟩
          have HMV := Lib.hid hmv
          rw [hmv] at hm s0 hWS hBS
          have w0 := hBS.cell 0 rfl
          have w1 := hBS.cell 1 rfl
          rw [hWS] at w0 w1
          have HWS := Lib.hid hWS.symm
          clear hmv hWS
          have hcs : (mv = 0 ∧ (q.length : Int) ≠ 1) ∨ (mv = 1 ∧ 1 < q.length) ∨ ((mv = 0 ∧ q.length = 1) ∨ (mv = 1 ∧ ¬ 1 < q.length) ∨ (¬ mv = 0 ∧ ¬ mv = 1)) := by omega
          rcases hcs with ⟨hv0, hq1⟩ | ⟨hv1, hq1⟩ | hcs
          · have hE := Lib.hid (hBAD.out (bad_yes hs hq (row_bad1 (by rw [HMV.out]; exact hv0) hq1)))
            subst hv0
            have hd : ((q.length : Int) != 1) = true := by simpa using hq1
            go_wp2
            go_ret
            rw [hE.out]
            exact ⟨rfl, Fr.trans hf frx⟩
          · have hE := Lib.hid (hBAD.out (bad_yes hs hq (row_bad2 (by rw [HMV.out]; exact hv1) hq1)))
            subst hv1
            have hd : decide (1 < q.length) = true := by simpa using hq1
            go_wp2
            go_ret
            rw [hE.out]
            exact ⟨rfl, Fr.trans hf frx⟩
          · have h1 : Hid (s.many = 0 → q.length = 1) := fun h => by rw [HMV.out] at h; omega
            have h2 : Hid (s.many = 1 → q.length ≤ 1) := fun h => by rw [HMV.out] at h; omega
            rcases hcs with ⟨hv0, hq1⟩ | ⟨hv1, hq1⟩ | ⟨hv0, hv1⟩
            · subst hv0
              have hd : ((q.length : Int) != 1) = false := by simp [hq1]
              have hq1 := Lib.hid hq1
              have g1 : ((0 : Int) == 1) = false := rfl
              go_wp2_with fail
              rw [HWS.out]
              have hB1' := hB1
              have hB2' := hB2
              have hB3' := hB3
              have hf' := hf
              go_loopw [87] (fun j w2 => ∃ m : Nat, m ≤ q.length ∧ j = .int .i64 m ∧ Hid (∀ y ∈ q.take m, y.kind ∈ s.kinds) ∧ Fr [] WS w2) (fun j _ => q.length - (intOf j).toNat)
              case atStart => exact ⟨0, Nat.zero_le _, rfl, by intro y hy; simp at hy, Fr.refl _ _⟩
              case round =>
                clear hB1' hB2' hB3' hf'
                obtain ⟨m, hm', rfl, hall, hfm⟩ := hrel
                have hFm := hFS.trans hfm
                have w1 := (hBS.fr hfm (by simp)).cell 1 rfl
                by_cases hlt2 : m < q.length
                · obtain ⟨b6, off6, x, A6, c6, rfl, hx, e0, e1, e2, hX⟩ := hRow.at_ hlt2
                  have e0 := hFm.cell e0 (by simp)
                  have e1 := hFm.cell e1 (by simp)
                  have e2 := hFm.cell e2 (by simp)
                  have w1' := fun o => ((Fr.refl [] _).alloc o).cell w1 (by simp)
                  by_cases hmem : x.kind ∈ s.kinds
                  · have hnx := Lib.hid (kinds_next hall.out hx hmem)
                    have hd9 : decide (x.kind ∈ s.kinds) = true := by simpa using hmem
                    have hmem := Lib.hid hmem
                    go_wp2_with fail
                    refine (has_any _ _ s.kinds x.kind _ (hksS.fr0 (Fr.trans hfm frx))).mono ?_
                    rw [hd9]
                    rintro e wa ⟨rfl, na, rfl⟩
                    go_wp2
                    go_roundw
                    case rel => exact ⟨m + 1, by omega, by go_num, hnx, Fr.trans hfm frx⟩
                    case measure => simp [intOf]; omega
                  · have hE := Lib.hid (hBAD.out (bad_yes hs hq (row_bad3 hx hmem)))
                    have hd9 : decide (x.kind ∈ s.kinds) = false := by simpa using hmem
                    have hmem := Lib.hid hmem
                    go_wp2_with fail
                    refine (has_any _ _ s.kinds x.kind _ (hksS.fr0 (Fr.trans hfm frx))).mono ?_
                    rw [hd9]
                    rintro e wa ⟨rfl, na, rfl⟩
                    go_wp2
                    go_ret
                    rw [hE.out]
                    exact ⟨rfl, Fr.trans hFm frx⟩
                · have hfn : Hid (FineTo r.slots t.slots (k + 1)) := hfine.out.next hs hq (row_fine h1.out h2.out (by have := hall.out; rw [List.take_of_length_le (by omega)] at this; exact this))
                  go_wp2
                  go_roundw
                  case rel => exact ⟨k + 1, by omega, by go_num, hfn, hB1S.fr hfm (by simp), hB2S.fr hfm (by simp), ⟨lf, hB3S.fr hfm (by simp)⟩, hFm⟩
                  case measure => simp [intOf]; omega
            · subst hv1
              have hd : decide (1 < q.length) = false := by simpa using hq1
              have hq1 := Lib.hid hq1
              go_wp2_with fail
              rw [HWS.out]
              have hB1' := hB1
              have hB2' := hB2
              have hB3' := hB3
              have hf' := hf
              go_loopw [87] (fun j w2 => ∃ m : Nat, m ≤ q.length ∧ j = .int .i64 m ∧ Hid (∀ y ∈ q.take m, y.kind ∈ s.kinds) ∧ Fr [] WS w2) (fun j _ => q.length - (intOf j).toNat)
              case atStart => exact ⟨0, Nat.zero_le _, rfl, by intro y hy; simp at hy, Fr.refl _ _⟩
              case round =>
                clear hB1' hB2' hB3' hf'
                obtain ⟨m, hm', rfl, hall, hfm⟩ := hrel
                have hFm := hFS.trans hfm
                have w1 := (hBS.fr hfm (by simp)).cell 1 rfl
                by_cases hlt2 : m < q.length
                · obtain ⟨b6, off6, x, A6, c6, rfl, hx, e0, e1, e2, hX⟩ := hRow.at_ hlt2
                  have e0 := hFm.cell e0 (by simp)
                  have e1 := hFm.cell e1 (by simp)
                  have e2 := hFm.cell e2 (by simp)
                  have w1' := fun o => ((Fr.refl [] _).alloc o).cell w1 (by simp)
                  by_cases hmem : x.kind ∈ s.kinds
                  · have hnx := Lib.hid (kinds_next hall.out hx hmem)
                    have hd9 : decide (x.kind ∈ s.kinds) = true := by simpa using hmem
                    have hmem := Lib.hid hmem
                    go_wp2_with fail
                    refine (has_any _ _ s.kinds x.kind _ (hksS.fr0 (Fr.trans hfm frx))).mono ?_
                    rw [hd9]
                    rintro e wa ⟨rfl, na, rfl⟩
                    go_wp2
                    go_roundw
                    case rel => exact ⟨m + 1, by omega, by go_num, hnx, Fr.trans hfm frx⟩
                    case measure => simp [intOf]; omega
                  · have hE := Lib.hid (hBAD.out (bad_yes hs hq (row_bad3 hx hmem)))
                    have hd9 : decide (x.kind ∈ s.kinds) = false := by simpa using hmem
                    have hmem := Lib.hid hmem
                    go_wp2_with fail
                    refine (has_any _ _ s.kinds x.kind _ (hksS.fr0 (Fr.trans hfm frx))).mono ?_
                    rw [hd9]
                    rintro e wa ⟨rfl, na, rfl⟩
                    go_wp2
                    go_ret
                    rw [hE.out]
                    exact ⟨rfl, Fr.trans hFm frx⟩
                · have hfn : Hid (FineTo r.slots t.slots (k + 1)) := hfine.out.next hs hq (row_fine h1.out h2.out (by have := hall.out; rw [List.take_of_length_le (by omega)] at this; exact this))
                  go_wp2
                  go_roundw
                  case rel => exact ⟨k + 1, by omega, by go_num, hfn, hB1S.fr hfm (by simp), hB2S.fr hfm (by simp), ⟨lf, hB3S.fr hfm (by simp)⟩, hFm⟩
                  case measure => simp [intOf]; omega
            · have hd1 : (mv == 0) = false := by simpa using hv0
              have hd2 : (mv == 1) = false := by simpa using hv1
              have hv0 := Lib.hid hv0
              have hv1 := Lib.hid hv1
              go_wp2_with fail
              rw [HWS.out]
              have hB1' := hB1
              have hB2' := hB2
              have hB3' := hB3
              have hf' := hf
              go_loopw [87] (fun j w2 => ∃ m : Nat, m ≤ q.length ∧ j = .int .i64 m ∧ Hid (∀ y ∈ q.take m, y.kind ∈ s.kinds) ∧ Fr [] WS w2) (fun j _ => q.length - (intOf j).toNat)
              case atStart => exact ⟨0, Nat.zero_le _, rfl, by intro y hy; simp at hy, Fr.refl _ _⟩
              case round =>
                clear hB1' hB2' hB3' hf'
                obtain ⟨m, hm', rfl, hall, hfm⟩ := hrel
                have hFm := hFS.trans hfm
                have w1 := (hBS.fr hfm (by simp)).cell 1 rfl
                by_cases hlt2 : m < q.length
                · obtain ⟨b6, off6, x, A6, c6, rfl, hx, e0, e1, e2, hX⟩ := hRow.at_ hlt2
                  have e0 := hFm.cell e0 (by simp)
                  have e1 := hFm.cell e1 (by simp)
                  have e2 := hFm.cell e2 (by simp)
                  have w1' := fun o => ((Fr.refl [] _).alloc o).cell w1 (by simp)
                  by_cases hmem : x.kind ∈ s.kinds
                  · have hnx := Lib.hid (kinds_next hall.out hx hmem)
                    have hd9 : decide (x.kind ∈ s.kinds) = true := by simpa using hmem
                    have hmem := Lib.hid hmem
                    go_wp2_with fail
                    refine (has_any _ _ s.kinds x.kind _ (hksS.fr0 (Fr.trans hfm frx))).mono ?_
                    rw [hd9]
                    rintro e wa ⟨rfl, na, rfl⟩
                    go_wp2
                    go_roundw
                    case rel => exact ⟨m + 1, by omega, by go_num, hnx, Fr.trans hfm frx⟩
                    case measure => simp [intOf]; omega
                  · have hE := Lib.hid (hBAD.out (bad_yes hs hq (row_bad3 hx hmem)))
                    have hd9 : decide (x.kind ∈ s.kinds) = false := by simpa using hmem
                    have hmem := Lib.hid hmem
                    go_wp2_with fail
                    refine (has_any _ _ s.kinds x.kind _ (hksS.fr0 (Fr.trans hfm frx))).mono ?_
                    rw [hd9]
                    rintro e wa ⟨rfl, na, rfl⟩
                    go_wp2
                    go_ret
                    rw [hE.out]
                    exact ⟨rfl, Fr.trans hFm frx⟩
                · have hfn : Hid (FineTo r.slots t.slots (k + 1)) := hfine.out.next hs hq (row_fine h1.out h2.out (by have := hall.out; rw [List.take_of_length_le (by omega)] at this; exact this))
                  go_wp2
                  go_roundw
                  case rel => exact ⟨k + 1, by omega, by go_num, hfn, hB1S.fr hfm (by simp), hB2S.fr hfm (by simp), ⟨lf, hB3S.fr hfm (by simp)⟩, hFm⟩
                  case measure => simp [intOf]; omega
        · have hE := Lib.hid (hON.out (hfine.out.done (by omega)))
          have hB1' := hB1
          have hB2' := hB2
          have hf' := hf
          go_wp2_with fail
          clear hkt
          go_loopw [102] (fun i wr => ∃ k : Nat, k ≤ t.slots.length ∧ i = .int .i64 k ∧ Hid (fold2 (nodeX g) 0 (t.slots.take k) = 0) ∧ Blk wr w.heap.size 24 #[.slice (some ⟨b, off, none⟩) g.length c] ∧ Blk wr (w.heap.size + 1) 27 #[.int .i64 kk, .string t.text, .slice AT t.slots.length cT] ∧ Fr [] w wr) (fun i _ => t.slots.length - (intOf i).toNat)
          case atStart => exact ⟨0, Nat.zero_le _, rfl, rfl, hB1', hB2', hf'⟩
          case round =>
            clear hB1' hB2' hf' hB1 hB2 hB3 hf p2 r3
            obtain ⟨k, hk, rfl, hz, hB1, hB2, hf⟩ := hrel
            have q0 := hB1.cell 0 rfl
            have p2 := hB2.cell 2 rfl
            by_cases hlt : k < t.slots.length
            · obtain ⟨b4, off4, q, A5, c5, rfl, hq, hc, hRow, hlq⟩ := hR.at_ hlt
              have hc := hf.cell hc (by simp)
              have hB1' := hB1
              have hB2' := hB2
              have hf' := hf
              go_wp2_with fail
              go_loopw [108] (fun j wr => ∃ m : Nat, m ≤ q.length ∧ j = .int .i64 m ∧ Hid ((q.take m).foldl (nodeX g) (fold2 (nodeX g) 0 (t.slots.take k)) = 0) ∧ Blk wr w.heap.size 24 #[.slice (some ⟨b, off, none⟩) g.length c] ∧ Blk wr (w.heap.size + 1) 27 #[.int .i64 kk, .string t.text, .slice (some ⟨b4, off4, none⟩) t.slots.length cT] ∧ Fr [] w wr) (fun j _ => q.length - (intOf j).toNat)
              case atStart => exact ⟨0, Nat.zero_le _, rfl, hz, hB1', hB2', hf'⟩
              case round =>
                clear hB1' hB2' hf' hB1 hB2 hf p2 q0 hc
                obtain ⟨m, hm, rfl, hzm, hB1, hB2, hf⟩ := hrel
                have q0 := hB1.cell 0 rfl
                have p2 := hB2.cell 2 rfl
                have hc := hf.cell (‹w.cell? ⟨b4, off4 + k, none⟩ = _›) (by simp)
                by_cases hlt2 : m < q.length
                · obtain ⟨b6, off6, x, A6, c6, rfl, hx, e0, e1, e2, hX⟩ := hRow.at_ hlt2
                  have e0 := hf.cell e0 (by simp)
                  have e1 := hf.cell e1 (by simp)
                  have e2 := hf.cell e2 (by simp)
                  have q0' := fun o => ((Fr.refl [] _).alloc o).cell q0 (by simp)
                  have hcut : Hid (nodeErr g x ≠ 0 → fold2 (nodeX g) 0 t.slots = nodeErr g x) := fun h => err_cut hq hx hzm.out h
                  have hnxt : Hid (nodeErr g x = 0 → (q.take (m + 1)).foldl (nodeX g) (fold2 (nodeX g) 0 (t.slots.take k)) = 0) := fun h => err_zero hx hzm.out h
                  obtain ⟨ev, hev⟩ : ∃ ev, nodeErr g x = ev := ⟨_, rfl⟩
                  rw [hev] at hcut hnxt
                  have HEV := Lib.hid hev
                  clear hev
                  go_wp2_with fail
                  refine (ih x _ S _ (ha.fr0 (Fr.trans hf frx)) ⟨A6, c6, rfl, hX.fr0 (Fr.trans hf frx)⟩).mono ?_
                  rw [HEV.out]
                  rintro e wa ⟨rfl, hfa⟩
                  have hFa : Fr [] wr wa := (Fr.trans frx hfa)
                  by_cases hez : ev = 0
                  · have hzn := Lib.hid (hnxt.out hez)
                    subst hez
                    go_wp2_with fail
                    go_roundw
                    case rel => exact ⟨m + 1, by omega, by go_num, hzn, hB1.fr hFa (by simp), hB2.fr hFa (by simp), hf.trans hFa⟩
                    case measure => simp [intOf]; omega
                  · have hEE := Lib.hid (hcut.out hez)
                    have hd : (ev != 0) = true := by simpa using hez
                    have hez := Lib.hid hez
                    go_wp2_with fail
                    go_ret
                    rw [hE.out, hEE.out]
                    exact ⟨rfl, hf.trans hFa⟩
                · have hzn : Hid (fold2 (nodeX g) 0 (t.slots.take (k + 1)) = 0) := by
                    have := hzm.out
                    rw [List.take_of_length_le (show q.length ≤ m by omega)] at this
                    show _ = _
                    rw [fold2_take hq]
                    exact this
                  go_wp2
                  go_roundw
                  case rel => exact ⟨k + 1, by omega, by go_num, hzn, hB1, hB2, hf⟩
                  case measure => simp [intOf]; omega
            · have hEE : Hid (fold2 (nodeX g) 0 t.slots = 0) := by
                have := hz.out
                rw [List.take_of_length_le (by omega)] at this
                exact this
              go_wp2
              go_ret
              rw [hE.out, hEE.out]
              exact ⟨rfl, hf⟩
end

/- SameTree of the reference, at two values that read as one tree; measure of the program. -/
section
open Go.RowKit
end

end Go.Proofs.YtippadnbngcjlaaGreatDoor
