/- Texts of this seat, one behind the other: RText. -/
import Derived.Test.YtippadnbngcjlaaGreatDoorh121
import Derived.Test.YtippadnbngcjlaaGreatDoorh13
import Derived.Deep.RegionHeld3
import Derived.Laws.Concat
namespace Go.Proofs.YtippadnbngcjlaaGreatDoor
set_option linter.unusedVariables false

/- text of the reference. -/
section
open Go.RowKit
def tx (l : Bs) : ByteArray := ⟨l.toArray⟩
theorem tx_sb (s : ByteArray) : tx (sb s) = s := by cases s; simp [tx, sb]
theorem tx_app (a b : Bs) : tx a ++ tx b = tx (a ++ b) := by unfold tx; rw [ByteArray.mk_append_mk]
theorem tx_app2 (a : Bs) (s : ByteArray) : tx a ++ s = tx (a ++ sb s) := by rw [← tx_app, tx_sb]
theorem tx_app3 (a b : ByteArray) : a ++ b = tx (sb a ++ sb b) := by rw [← tx_app, tx_sb, tx_sb]
theorem tx_size (l : Bs) : (tx l).size = l.length := by unfold tx; simp [ByteArray.size]
set_option maxRecDepth 20000 in
set_option maxHeartbeats 6400000 in
theorem reftext_any (A : Option Addr) (c : Nat) (g : List Ru) (n : Nat) : ∀ (t : T) (v : Value) (S : Nat → Prop) (w : World), RRu w A c g → RT S n w v t → Val g t → (textL g t).length ≤ 1000000 →
    Calls Tryz.prog 32 #[.agg #[.slice A g.length c], v] w (RetV w (.string (tx (textL g t)))) := by
  induction n with
  | zero => intro t v S w _ h; obtain ⟨_, _, _, h⟩ := h; exact absurd h id
  | succ n ih =>
    intro t v S w ha h hval hlong
    obtain ⟨AT, cT, rfl, hR⟩ := h
    have hR : RowsB S (fun A c x => RH S n w A c x) w AT cT t.slots := hR
    have hl1 := hR.bound
    have hgb := ha.bound
    obtain ⟨r, hru, h16, hlen, _, _, hsub⟩ := val_parts hval
    obtain ⟨kk, hkk, hgk, hkl⟩ := ruleAt_some hru
    obtain ⟨b, off, r', A1, c1, rfl, hr, e0, e1, e2, e3, hSl⟩ := ha.at_ hkl
    obtain rfl : r = r' := Option.some.inj (hgk.symm.trans hr.out)
    have hsb := hSl.bound
    have HU := Lib.hid hru
    have HT := Lib.hid (textL_eq hru)
    have HLEN := Lib.hid hlen
    have HSUB := Lib.hid hsub
    have HUP := Lib.hid (fun i => text_upto (g := g) (t := t) hru i)
    have h0up := HUP.out 0
    simp only [List.take_zero, List.foldl_nil, List.length_append, sb_size] at h0up
    rw [hkk]
    clear hru hval hgk hkk hsub hlen
    obtain ⟨W3, hW3⟩ : ∃ W, W = ((w.alloc (.cells #[.slice (some ⟨b, off, none⟩) g.length c] 24)).alloc (.cells #[.int .i64 kk, .string t.text, .slice AT t.slots.length cT] 27)).alloc (.cells #[.string r.before, .string r.after, .bool r.leaf, .slice A1 r.slots.length c1] 51) := ⟨_, rfl⟩
    have hF3 : Fr [] w W3 := by rw [hW3]; exact frx
    have hB1 : Blk W3 w.heap.size 24 #[.slice (some ⟨b, off, none⟩) g.length c] := by rw [hW3]; exact ((Blk.new w _ _ _ rfl).alloc _).alloc _
    have hB2 : Blk W3 (w.heap.size + 1) 27 #[.int .i64 kk, .string t.text, .slice AT t.slots.length cT] := by rw [hW3]; exact (Blk.new _ _ _ _ (by simp)).alloc _
    have hB3 : Blk W3 (w.heap.size + 1 + 1) 51 #[.string r.before, .string r.after, .bool r.leaf, .slice A1 r.slots.length c1] := by rw [hW3]; exact Blk.new _ _ _ _ (by simp)
    have e0 := fun o1 o2 => (((Fr.refl [] w).alloc o1).alloc o2).cell e0 (by simp)
    have e1 := fun o1 o2 => (((Fr.refl [] w).alloc o1).alloc o2).cell e1 (by simp)
    have e2 := fun o1 o2 => (((Fr.refl [] w).alloc o1).alloc o2).cell e2 (by simp)
    have e3 := fun o1 o2 => (((Fr.refl [] w).alloc o1).alloc o2).cell e3 (by simp)
    have r0 := hB3.cell 0 rfl
    have p1 := hB2.cell 1 rfl
    have HW3 := Lib.hid hW3.symm
    rw [hW3] at r0 p1
    clear hW3
    go_enter Tryz.func32, Tryz.ntmps32
    go_wp2_with fail
    rw [HW3.out]
    clear r0 p1 e0 e1 e2 e3
    go_loopw [6, 7] (fun sv i wr => ∃ k : Nat, k ≤ t.slots.length ∧ i = .int .i64 k ∧ sv = .string (tx (((r.slots.zip (rowsL g t)).take k).foldl slotText (sb r.before ++ sb t.text))) ∧ Fr [] W3 wr) (fun _ i _ => t.slots.length - (intOf i).toNat)
    case atStart => exact ⟨0, Nat.zero_le _, rfl, by rw [tx_app3]; rfl, Fr.refl _ _⟩
    case round =>
      obtain ⟨k, hk, rfl, rfl, hf⟩ := hrel
      have hbk := HUP.out k
      simp only [sb_size] at hbk
      have hFw := hF3.trans hf
      have p2 := (hB2.fr hf (by simp)).cell 2 rfl
      by_cases hlt : k < t.slots.length
      · obtain ⟨b2, off2, s, A4, c4, rfl, hs, hm, s0, s1, hks, s2⟩ := hSl.at_ (k := k) (by rw [← HLEN.out]; exact hlt)
        have hkr : k < r.slots.length := by rw [← HLEN.out]; exact hlt
        obtain ⟨b4, off4, q, A5, c5, rfl, hq, hc, hRow, hlq⟩ := hR.at_ (i := k) hlt
        have hc := hFw.cell hc (by simp)
        have HIN := Lib.hid (fun m => text_in HU.out hs hq m)
        have HST := Lib.hid (slots_take (b := sb r.before ++ sb t.text) hs (rowsL_at (g := g) hq))
        have HQ := Lib.hid (HSUB.out q (List.mem_of_getElem? hq.out))
        generalize ((r.slots.zip (rowsL g t)).take k).foldl slotText (sb r.before ++ sb t.text) = out at *
        go_wp2_with fail
        go_loopw [6, 8] (fun sv j wr => ∃ m : Nat, m ≤ q.length ∧ j = .int .i64 m ∧ sv = .string (tx (inRow (sb s.between) out (q.map (textL g)) m)) ∧ Fr [] W3 wr) (fun _ j _ => q.length - (intOf j).toNat)
        case atStart => exact ⟨0, Nat.zero_le _, rfl, rfl, hf⟩
        case round =>
          clear hf hFw hc p2
          obtain ⟨m, hm, rfl, rfl, hf⟩ := hrel
          have hFw := hF3.trans hf
          have hbm := HIN.out m
          have hB1w := hB1.fr hf (by simp)
          have hB2w := hB2.fr hf (by simp)
          have hB3w := hB3.fr hf (by simp)
          have q0 := hB1w.cell 0 rfl
          have p2 := hB2w.cell 2 rfl
          have r3 := hB3w.cell 3 rfl
          have s2 := hFw.cell s2 (by simp)
          have hc := hFw.cell (‹w.cell? ⟨b4, off4 + k, none⟩ = _›) (by simp)
          by_cases hlt2 : m < q.length
          · obtain ⟨b6, off6, x, A6, c6, rfl, hx, f0, f1, f2, hX⟩ := hRow.at_ hlt2
            have f0 := hFw.cell f0 (by simp)
            have f1 := hFw.cell f1 (by simp)
            have f2 := hFw.cell f2 (by simp)
            have hxv := Lib.hid (HQ.out x (List.mem_of_getElem? hx.out))
            have HN := Lib.hid (inRow_next (g := g) (bt := sb s.between) (out := out) hx)
            have hbn := HIN.out (m + 1)
            rw [HN.out] at hbn
            simp only [List.length_append, sb_size] at hbn
            simp only [sb_size] at hbm
            have hszb := sb_size s.between
            have htx : (textL g x).length ≤ 1000000 := by omega
            have hszo := tx_size (inRow (sb s.between) out (q.map (textL g)) m)
            generalize inRow (sb s.between) out (q.map (textL g)) m = cur at *
            by_cases hm0 : 0 < m
            · rw [if_pos hm0] at HN hbn
              have hm0' := Lib.hid hm0
              have hsum : ¬ (9223372036854775807 : Nat) < (tx cur).size + s.between.size := by omega
              have hcat : tx cur ++ s.between = tx (cur ++ sb s.between) := tx_app2 _ _
              have hcat2 := tx_app (cur ++ sb s.between) (textL g x)
              have hszl := tx_size (textL g x)
              have hsze := tx_size (cur ++ sb s.between)
              rw [List.length_append] at hsze
              obtain ⟨tn, htn⟩ : ∃ tn, tx ((cur ++ sb s.between) ++ textL g x) = tn := ⟨_, rfl⟩
              rw [htn] at hcat2
              obtain ⟨tl, htl⟩ : ∃ tl, tx (textL g x) = tl := ⟨_, rfl⟩
              rw [htl] at hcat2 hszl
              obtain ⟨te, hte⟩ : ∃ te, tx (cur ++ sb s.between) = te := ⟨_, rfl⟩
              rw [hte] at hcat2 hsze
              rw [hte] at hcat
              have hsum2 : ¬ (9223372036854775807 : Nat) < te.size + tl.size := by omega
              clear hszl hsze
              have HTN := Lib.hid htn
              have HTL := Lib.hid htl
              have HTE := Lib.hid hte
              clear htn htl hte
              go_wp2_with fail
              go_region_held3 (fun w' => w'.cell? ⟨w.heap.size, 0, none⟩ = some (.slice (some ⟨b, off, none⟩) g.length c) ∧ w'.cell? ⟨w.heap.size + 1, 2, none⟩ = some (.slice (some ⟨b4, off4, none⟩) t.slots.length cT) ∧ w'.cell? ⟨b4, off4 + k, none⟩ = some (.slice (some ⟨b6, off6, none⟩) q.length c5) ∧ w'.cell? ⟨b6, off6 + m * 3, none⟩ = some (.int .i64 x.kind) ∧ w'.cell? ⟨b6, off6 + m * 3 + 1, none⟩ = some (.string x.text) ∧ w'.cell? ⟨b6, off6 + m * 3 + 2, none⟩ = some (.slice A6 x.slots.length c6))
                (first
                  | (go_keep; done)
                  | exact ⟨hFa.cell q0 (by simp), hFa.cell p2 (by simp), hFa.cell hc (by simp), hFa.cell f0 (by simp), hFa.cell f1 (by simp), hFa.cell f2 (by simp)⟩)
                (first
                  | (go_at_call 32; refine (ih x _ S _ (ha.fr0 (Fr.trans hFw frx)) ⟨A6, c6, rfl, hX.fr0 (Fr.trans hFw frx)⟩ hxv.out htx).mono ?_; rw [HTL.out]; rintro e wa ⟨rfl, hfa⟩; have hFa : Fr [] wr wa := (Fr.trans frx hfa)))
              go_wp2_with fail
              go_roundw
              case rel => exact ⟨m + 1, by omega, by go_num, by rw [HN.out, HTN.out], hf.trans hFa⟩
              case measure => simp [intOf]; omega
            · rw [if_neg hm0, List.append_nil] at HN
              rw [if_neg hm0, List.length_nil] at hbn
              have hm0' := Lib.hid hm0
              have hm00 : m = 0 := by omega
              subst hm00
              simp only [Nat.zero_mul, Nat.add_zero] at f0 f1 f2
              have hcat2 := tx_app cur (textL g x)
              have hszl := tx_size (textL g x)
              have hsze := tx_size cur
              obtain ⟨tn, htn⟩ : ∃ tn, tx (cur ++ textL g x) = tn := ⟨_, rfl⟩
              rw [htn] at hcat2
              obtain ⟨tl, htl⟩ : ∃ tl, tx (textL g x) = tl := ⟨_, rfl⟩
              rw [htl] at hcat2 hszl
              obtain ⟨te, hte⟩ : ∃ te, tx cur = te := ⟨_, rfl⟩
              rw [hte] at hcat2 hsze
              rw [hte]
              have hsum2 : ¬ (9223372036854775807 : Nat) < te.size + tl.size := by omega
              clear hszl hsze
              have HTN := Lib.hid htn
              have HTL := Lib.hid htl
              have HTE := Lib.hid hte
              clear htn htl hte
              go_wp2_with fail
              go_region_held3 (fun w' => w'.cell? ⟨w.heap.size, 0, none⟩ = some (.slice (some ⟨b, off, none⟩) g.length c) ∧ w'.cell? ⟨w.heap.size + 1, 2, none⟩ = some (.slice (some ⟨b4, off4, none⟩) t.slots.length cT) ∧ w'.cell? ⟨b4, off4 + k, none⟩ = some (.slice (some ⟨b6, off6, none⟩) q.length c5) ∧ w'.cell? ⟨b6, off6, none⟩ = some (.int .i64 x.kind) ∧ w'.cell? ⟨b6, off6 + 1, none⟩ = some (.string x.text) ∧ w'.cell? ⟨b6, off6 + 2, none⟩ = some (.slice A6 x.slots.length c6))
                (first
                  | (go_keep; done)
                  | exact ⟨hFa.cell q0 (by simp), hFa.cell p2 (by simp), hFa.cell hc (by simp), hFa.cell f0 (by simp), hFa.cell f1 (by simp), hFa.cell f2 (by simp)⟩)
                (first
                  | (go_at_call 32; refine (ih x _ S _ (ha.fr0 (Fr.trans hFw frx)) ⟨A6, c6, rfl, hX.fr0 (Fr.trans hFw frx)⟩ hxv.out htx).mono ?_; rw [HTL.out]; rintro e wa ⟨rfl, hfa⟩; have hFa : Fr [] wr wa := (Fr.trans frx hfa)))
              go_wp2_with fail
              go_roundw
              case rel => exact ⟨0 + 1, by omega, by go_num, by rw [HN.out, HTN.out], hf.trans hFa⟩
              case measure => simp [intOf]; omega
          · have hall := Lib.hid (inRow_all (bt := sb s.between) (out := out) (row := q.map (textL g)) (k := m) (by rw [List.length_map]; omega))
            have HST2 : Hid (((r.slots.zip (rowsL g t)).take (k + 1)).foldl slotText (sb r.before ++ sb t.text) = rowText (sb s.between) out (q.map (textL g))) := HST.out
            go_wp2
            go_roundw
            case rel => exact ⟨k + 1, by omega, by go_num, by rw [HST2.out, hall.out], hf⟩
            case measure => simp [intOf]; omega
      · have HALL : Hid (((r.slots.zip (rowsL g t)).take k).foldl slotText (sb r.before ++ sb t.text) ++ sb r.after = textL g t) := by
          show _ = _
          rw [HT.out, List.take_of_length_le]
          rw [List.length_zip]
          unfold rowsL
          rw [List.length_map]
          omega
        have r1 := (hB3.fr hf (by simp)).cell 1 rfl
        generalize ((r.slots.zip (rowsL g t)).take k).foldl slotText (sb r.before ++ sb t.text) = out at *
        have hszo := tx_size out
        have hsum : ¬ (9223372036854775807 : Nat) < (tx out).size + r.after.size := by omega
        have hcat : tx out ++ r.after = tx (textL g t) := by rw [tx_app2, HALL.out]
        go_wp2
        go_ret
        exact ⟨rfl, hFw⟩
end

end Go.Proofs.YtippadnbngcjlaaGreatDoor
