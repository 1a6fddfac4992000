/- Texts of this seat, one behind the other: Text. -/
import Derived.Test.YtippadnbngcjlaaGreatDoorh121
import Derived.Test.YtippadnbngcjlaaGreatDoorh133
import Derived.Test.YtippadnbngcjlaaGreatDoorh13
namespace Go.Proofs.YtippadnbngcjlaaGreatDoor
set_option linter.unusedVariables false

/- text of the program. -/
section
open Go.RowKit
abbrev TB : TypeId := 119
abbrev TU : TypeId := 5
theorem fr_below {B : Nat} {a b c : World} (h : Fr [] a b) (k : Below B b c) (hB : a.heap.size ≤ B) : Fr [] a c := by
 obtain ⟨h1, h2, h3, h4, h5⟩ := k
 exact ⟨h1.trans h.os, h2.trans h.tape, h3.trans h.output, Nat.le_trans h.size h4, fun i hi hn => (h5 i (by omega)).trans (h.block i hi hn)⟩
theorem bld_fr0 {B b : Nat} {bs : List Value} {w w' : World} (h : Lib.IsBuilderF TB TU B b bs w) (hf : Fr [] w w') : Lib.IsBuilderF TB TU B b bs w' := by
 have hAt : ∀ p, Lib.BuilderAtF TB TU B b p bs w → Lib.BuilderAtF TB TU B b p bs w' := fun p ⟨hB, v, hbk, hown, hne⟩ => by
  refine ⟨hB, v, hf.heap hbk (by simp), ⟨hown.1, ?_⟩, hne⟩
  rcases hown.2 with h0 | ⟨g, cap, cur, fz, hv, hb, hg, hrest⟩
  ·exact .inl h0
  ·exact .inr ⟨g, cap, cur, fz, hv, hb, hf.heap hg (by simp), hrest⟩
 rcases h with h | h
 ·exact .inl (hAt _ h)
 ·exact .inr (hAt _ h)
theorem cells_app (a : Bs) (s : ByteArray) : Lib.byteCells a ++ Lib.strCells s = Lib.byteCells (a ++ sb s) := by rw [Lib.strCells_eq, ← Lib.byteCells_append]; rfl
theorem sb_mk (l : Bs) : sb ⟨l.toArray⟩ = l := rfl
set_option maxRecDepth 20000 in
set_option maxHeartbeats 6400000 in
theorem text_any (A : Option Addr) (c : Nat) (g : List Ru) (n : Nat) : ∀ (t : T) (v : Value) (S : Nat → Prop) (w : World), RRu w A c g → RT S n w v t → Val g t → (textL g t).length ≤ 1000000 →
    Calls Tryz.prog 42 #[.agg #[.slice A g.length c], v] w (RetV w (.string ⟨(textL g t).toArray⟩)) := by
  induction n with
  | zero => intro t v S w _ h; obtain ⟨_, _, _, h⟩ := h; exact absurd h id
  | succ n ih =>
    intro t v S w ha h hval hlong
    obtain ⟨AT, cT, rfl, hR⟩ := h
    have hR : RowsB S (fun A c x => RH S n w A c x) w AT cT t.slots := hR
    have hl1 := hR.bound
    have hgb := ha.bound
    obtain ⟨r, hru, h16, hlen, _, _, hsub⟩ := val_parts hval
    obtain ⟨kk, hkk, hgk, hkl⟩ := ruleAt_some hru
    obtain ⟨b, off, r', A1, c1, rfl, hr, e0, e1, e2, e3, hSl⟩ := ha.at_ hkl
    obtain rfl : r = r' := Option.some.inj (hgk.symm.trans hr.out)
    have hsb := hSl.bound
    have HU := Lib.hid hru
    have HT := Lib.hid (textL_eq hru)
    have HLEN := Lib.hid hlen
    have HSUB := Lib.hid hsub
    have HUP := Lib.hid (fun i => text_upto (g := g) (t := t) hru i)
    have h0up := HUP.out 0
    simp only [List.take_zero, List.foldl_nil, List.length_append, sb_size] at h0up
    rw [hkk]
    clear hru hval hgk hkk hsub hlen
    obtain ⟨W3, hW3⟩ : ∃ W, W = ((w.alloc (.cells #[.slice (some ⟨b, off, none⟩) g.length c] 24)).alloc (.cells #[.int .i64 kk, .string t.text, .slice AT t.slots.length cT] 27)).alloc (.cells #[.string r.before, .string r.after, .bool r.leaf, .slice A1 r.slots.length c1] 51) := ⟨_, rfl⟩
    have hF3 : Fr [] w W3 := by rw [hW3]; exact frx
    have hB1 : Blk W3 w.heap.size 24 #[.slice (some ⟨b, off, none⟩) g.length c] := by rw [hW3]; exact ((Blk.new w _ _ _ rfl).alloc _).alloc _
    have hB2 : Blk W3 (w.heap.size + 1) 27 #[.int .i64 kk, .string t.text, .slice AT t.slots.length cT] := by rw [hW3]; exact (Blk.new _ _ _ _ (by simp)).alloc _
    have hB3 : Blk W3 (w.heap.size + 1 + 1) 51 #[.string r.before, .string r.after, .bool r.leaf, .slice A1 r.slots.length c1] := by rw [hW3]; exact Blk.new _ _ _ _ (by simp)
    have HZ3 : Hid (W3.heap.size = w.heap.size + 1 + 1 + 1) := by show _ = _; rw [hW3]; simp
    have e0 := fun o1 o2 => (((Fr.refl [] w).alloc o1).alloc o2).cell e0 (by simp)
    have e1 := fun o1 o2 => (((Fr.refl [] w).alloc o1).alloc o2).cell e1 (by simp)
    have e2 := fun o1 o2 => (((Fr.refl [] w).alloc o1).alloc o2).cell e2 (by simp)
    have e3 := fun o1 o2 => (((Fr.refl [] w).alloc o1).alloc o2).cell e3 (by simp)
    have hI0 : Lib.IsBuilderF TB TU (w.heap.size + 1 + 1 + 1) (w.heap.size + 1 + 1 + 1) [] (W3.alloc (.cells #[.pointer none, .slice none 0 0] TB)) := by
      have := Lib.IsBuilderF.of (Lib.fresh_isBuilder TB TU W3)
      rw [HZ3.out] at this
      exact this
    have hfB : Fr [] W3 (W3.alloc (.cells #[.pointer none, .slice none 0 0] TB)) := frx
    have hz4 : (W3.alloc (.cells #[.pointer none, .slice none 0 0] TB)).heap.size = w.heap.size + 1 + 1 + 1 + 1 := by simp [HZ3.out]
    have r0 := (hB3.alloc (.cells #[.pointer none, .slice none 0 0] TB)).cell 0 rfl
    have HW3 := Lib.hid hW3.symm
    rw [hW3] at r0
    clear hW3
    go_enter Tryz.func42, Tryz.ntmps42
    go_wp2_with fail
    rw [HW3.out]
    clear r0 e0 e1 e2 e3
    refine (WriteString_any (w.heap.size + 1 + 1 + 1) (w.heap.size + 1 + 1 + 1) [] r.before _ hI0 (by simp; omega) (by omega)).mono ?_
    rintro e w1 ⟨rfl, h1, b1, _⟩
    have hf1 : Fr [] W3 w1 := fr_below hfB b1 (by rw [HZ3.out]; exact Nat.le_refl _)
    have hz1 : w.heap.size + 1 + 1 + 1 ≤ w1.heap.size := by have := b1.size; omega
    have hI1 : Lib.IsBuilderF TB TU (w.heap.size + 1 + 1 + 1) (w.heap.size + 1 + 1 + 1) (Lib.byteCells (sb r.before)) w1 := by
      rw [List.nil_append, Lib.strCells_eq] at h1
      exact Or.inr h1
    have p1 := (hB2.fr hf1 (by simp)).cell 1 rfl
    go_wp2_with fail
    refine (WriteString_any (w.heap.size + 1 + 1 + 1) (w.heap.size + 1 + 1 + 1) _ t.text _ hI1 (by rw [Lib.byteCells_length, sb_size]; omega) hz1).mono ?_
    rintro e w2 ⟨rfl, h2, b2, _⟩
    have hf2 : Fr [] W3 w2 := fr_below hf1 b2 (by rw [HZ3.out]; exact Nat.le_refl _)
    have hz2 : w.heap.size + 1 + 1 + 1 ≤ w2.heap.size := by have := b2.size; omega
    have hI2 : Lib.IsBuilderF TB TU (w.heap.size + 1 + 1 + 1) (w.heap.size + 1 + 1 + 1) (Lib.byteCells (sb r.before ++ sb t.text)) w2 := by
      rw [cells_app] at h2
      exact Or.inr h2
    have p2 := (hB2.fr hf2 (by simp)).cell 2 rfl
    clear p1 h1 h2 hI1 hI0 b1 b2 hf1 hfB hz4 hz1
    go_wp2_with fail
    go_loopw [26] (fun i wr => ∃ k : Nat, k ≤ t.slots.length ∧ i = .int .i64 k ∧ Lib.IsBuilderF TB TU (w.heap.size + 1 + 1 + 1) (w.heap.size + 1 + 1 + 1) (Lib.byteCells (((r.slots.zip (rowsL g t)).take k).foldl slotText (sb r.before ++ sb t.text))) wr ∧ Fr [] W3 wr) (fun i _ => t.slots.length - (intOf i).toNat)
    case atStart => exact ⟨0, Nat.zero_le _, rfl, hI2, hf2⟩
    case round =>
      clear hI2 hf2 p2 hz2
      obtain ⟨k, hk, rfl, hI, hf⟩ := hrel
      have hbk := HUP.out k
      simp only [sb_size] at hbk
      have hFw := hF3.trans hf
      by_cases hlt : k < t.slots.length
      · obtain ⟨b2, off2, s, A4, c4, rfl, hs, hm, s0, s1, hks, s2⟩ := hSl.at_ (k := k) (by rw [← HLEN.out]; exact hlt)
        have hkr : k < r.slots.length := by rw [← HLEN.out]; exact hlt
        obtain ⟨b4, off4, q, A5, c5, rfl, hq, hc, hRow, hlq⟩ := hR.at_ (i := k) hlt
        have hc := hFw.cell hc (by simp)
        have HIN := Lib.hid (fun m => text_in HU.out hs hq m)
        have HST := Lib.hid (slots_take (b := sb r.before ++ sb t.text) hs (rowsL_at (g := g) hq))
        have HQ := Lib.hid (HSUB.out q (List.mem_of_getElem? hq.out))
        generalize ((r.slots.zip (rowsL g t)).take k).foldl slotText (sb r.before ++ sb t.text) = out at *
        go_wp2_with fail
        go_loopw [33] (fun j wr => ∃ m : Nat, m ≤ q.length ∧ j = .int .i64 m ∧ Lib.IsBuilderF TB TU (w.heap.size + 1 + 1 + 1) (w.heap.size + 1 + 1 + 1) (Lib.byteCells (inRow (sb s.between) out (q.map (textL g)) m)) wr ∧ Fr [] W3 wr) (fun j _ => q.length - (intOf j).toNat)
        case atStart => exact ⟨0, Nat.zero_le _, rfl, hI, hf⟩
        case round =>
          clear hI hf hFw hc
          obtain ⟨m, hm, rfl, hI, hf⟩ := hrel
          have hFw := hF3.trans hf
          have hbm := HIN.out m
          by_cases hlt2 : m < q.length
          · obtain ⟨b6, off6, x, A6, c6, rfl, hx, f0, f1, f2, hX⟩ := hRow.at_ hlt2
            have f0 := hFw.cell f0 (by simp)
            have f1 := hFw.cell f1 (by simp)
            have f2 := hFw.cell f2 (by simp)
            have hxv := Lib.hid (HQ.out x (List.mem_of_getElem? hx.out))
            have HN := Lib.hid (inRow_next (g := g) (bt := sb s.between) (out := out) hx)
            have hbn := HIN.out (m + 1)
            rw [HN.out] at hbn
            simp only [List.length_append, sb_size] at hbn
            simp only [sb_size] at hbm
            obtain ⟨W5, hW5⟩ : ∃ W, W = wr.alloc (.cells #[.int .i64 x.kind, .string x.text, .slice A6 x.slots.length c6] 27) := ⟨_, rfl⟩
            have hf5 : Fr [] wr W5 := by rw [hW5]; exact frx
            have hB5 : Blk W5 wr.heap.size 27 (tcells x A6 c6) := by rw [hW5]; exact Blk.new _ _ _ _ rfl
            have hI5 := bld_fr0 hI hf5
            have hz5 : w.heap.size + 1 + 1 + 1 ≤ wr.heap.size := by have := hf.size; rw [HZ3.out] at this; exact this
            have hz6 := hB5.lt
            have HW5 := Lib.hid hW5.symm
            have q0 := (hB1.fr (hf.trans hf5) (by simp)).cell 0 rfl
            have y0 := hB5.cell 0 rfl
            have y1 := hB5.cell 1 rfl
            have y2 := hB5.cell 2 rfl
            have r3 := (hB3.fr (hf.trans hf5) (by simp)).cell 3 rfl
            have s2' := (hFw.trans hf5).cell s2 (by simp)
            rw [hW5] at r3 s2' q0 y0 y1 y2
            clear hW5
            have hzs : w.heap.size + 1 + 1 + 1 < wr.heap.size := by rcases hI with h | h <;> exact h.lt
            have htx : (textL g x).length ≤ 1000000 := by omega
            have hszb := sb_size s.between
            have hszx : ((⟨(textL g x).toArray⟩ : ByteArray)).size = (textL g x).length := by rw [← sb_size, sb_mk]
            by_cases hm0 : 0 < m
            · rw [if_pos hm0] at HN hbn
              have hm0' := Lib.hid hm0
              go_wp2_with fail
              rw [HW5.out]
              clear r3 s2' q0 y0 y1 y2
              refine (WriteString_any (w.heap.size + 1 + 1 + 1) (w.heap.size + 1 + 1 + 1) _ s.between _ hI5 (by rw [Lib.byteCells_length]; omega) (by omega)).mono ?_
              rintro e w6 ⟨rfl, h6, b6, k6⟩
              have hf6 : Fr [] W3 w6 := fr_below (hf.trans hf5) b6 (by rw [HZ3.out]; exact Nat.le_refl _)
              have hX6 : Blk w6 wr.heap.size 27 (tcells x A6 c6) := k6 _ _ hB5 (fun e => absurd (Option.some.inj e) (by omega)) (fun c fz e => by injection e with e1 e2; exact absurd e2 (by decide))
              have hI6 : Lib.IsBuilderF TB TU (w.heap.size + 1 + 1 + 1) (w.heap.size + 1 + 1 + 1) (Lib.byteCells (inRow (sb s.between) out (q.map (textL g)) m ++ sb s.between)) w6 := by
                rw [cells_app] at h6
                exact Or.inr h6
              have hz7 := b6.size
              have q0 := (hB1.fr hf6 (by simp)).cell 0 rfl
              have y0 := hX6.cell 0 rfl
              have y1 := hX6.cell 1 rfl
              have y2 := hX6.cell 2 rfl
              go_wp2_with fail
              refine (ih x _ S _ (ha.fr0 (hF3.trans hf6)) ⟨A6, c6, rfl, hX.fr0 (hF3.trans hf6)⟩ hxv.out htx).mono ?_
              rintro e w8 ⟨rfl, hf8⟩
              have hI8 := bld_fr0 hI6 hf8
              have hz8 := hf8.size
              go_wp2_with fail
              refine (WriteString_any (w.heap.size + 1 + 1 + 1) (w.heap.size + 1 + 1 + 1) _ ⟨(textL g x).toArray⟩ _ hI8 (by rw [Lib.byteCells_length, hszx]; (try rw [List.length_append]); omega) (by omega)).mono ?_
              rintro e w9 ⟨rfl, h9, b9, _⟩
              have hf9 : Fr [] W3 w9 := fr_below (hf6.trans hf8) b9 (by rw [HZ3.out]; exact Nat.le_refl _)
              have hI9 : Lib.IsBuilderF TB TU (w.heap.size + 1 + 1 + 1) (w.heap.size + 1 + 1 + 1) (Lib.byteCells (inRow (sb s.between) out (q.map (textL g)) (m + 1))) w9 := by
                rw [cells_app, sb_mk] at h9
                rw [HN.out]
                exact Or.inr h9
              go_wp2
              go_roundw
              case rel => exact ⟨m + 1, by omega, by go_num, hI9, hf9⟩
              case measure => simp [intOf]; omega
            · rw [if_neg hm0, List.append_nil] at HN
              rw [if_neg hm0, List.length_nil] at hbn
              have hm0' := Lib.hid hm0
              have hI6 := hI5
              have hf6 := hf.trans hf5
              have hX6 := hB5
              have hz7 : W5.heap.size ≤ W5.heap.size := Nat.le_refl _
              have hm00 : m = 0 := by omega
              subst hm00
              simp only [Nat.zero_mul, Nat.add_zero] at f0 f1 f2
              have q0 := (hB1.fr hf6 (by simp)).cell 0 rfl
              have y0 := hX6.cell 0 rfl
              have y1 := hX6.cell 1 rfl
              have y2 := hX6.cell 2 rfl
              go_wp2_with fail
              rw [HW5.out]
              refine (ih x _ S _ (ha.fr0 (hF3.trans hf6)) ⟨A6, c6, rfl, hX.fr0 (hF3.trans hf6)⟩ hxv.out htx).mono ?_
              rintro e w8 ⟨rfl, hf8⟩
              have hI8 := bld_fr0 hI6 hf8
              have hz8 := hf8.size
              go_wp2_with fail
              refine (WriteString_any (w.heap.size + 1 + 1 + 1) (w.heap.size + 1 + 1 + 1) _ ⟨(textL g x).toArray⟩ _ hI8 (by rw [Lib.byteCells_length, hszx]; (try rw [List.length_append]); omega) (by omega)).mono ?_
              rintro e w9 ⟨rfl, h9, b9, _⟩
              have hf9 : Fr [] W3 w9 := fr_below (hf6.trans hf8) b9 (by rw [HZ3.out]; exact Nat.le_refl _)
              have hI9 : Lib.IsBuilderF TB TU (w.heap.size + 1 + 1 + 1) (w.heap.size + 1 + 1 + 1) (Lib.byteCells (inRow (sb s.between) out (q.map (textL g)) (0 + 1))) w9 := by
                rw [cells_app, sb_mk] at h9
                rw [HN.out]
                exact Or.inr h9
              go_wp2
              go_roundw
              case rel => exact ⟨0 + 1, by omega, by go_num, hI9, hf9⟩
              case measure => simp [intOf]; omega
          · have hall := Lib.hid (inRow_all (bt := sb s.between) (out := out) (row := q.map (textL g)) (k := m) (by rw [List.length_map]; omega))
            rw [hall.out] at hI
            have HST2 : Hid (((r.slots.zip (rowsL g t)).take (k + 1)).foldl slotText (sb r.before ++ sb t.text) = rowText (sb s.between) out (q.map (textL g))) := HST.out
            go_wp2
            go_roundw
            case rel => exact ⟨k + 1, by omega, by go_num, by rw [HST2.out]; exact hI, hf⟩
            case measure => simp [intOf]; omega
      · have HALL : Hid (sb r.before ++ sb t.text = sb r.before ++ sb t.text ∧ ((r.slots.zip (rowsL g t)).take k).foldl slotText (sb r.before ++ sb t.text) ++ sb r.after = textL g t) := by
          refine ⟨rfl, ?_⟩
          rw [HT.out, List.take_of_length_le]
          rw [List.length_zip]
          unfold rowsL
          rw [List.length_map]
          omega
        have r1 := (hB3.fr hf (by simp)).cell 1 rfl
        have hz8 : w.heap.size + 1 + 1 + 1 ≤ wr.heap.size := by have := hf.size; rw [HZ3.out] at this; exact this
        generalize ((r.slots.zip (rowsL g t)).take k).foldl slotText (sb r.before ++ sb t.text) = out at *
        go_wp2_with fail
        refine (WriteString_any (w.heap.size + 1 + 1 + 1) (w.heap.size + 1 + 1 + 1) _ r.after _ hI (by rw [Lib.byteCells_length]; omega) hz8).mono ?_
        rintro e w6 ⟨rfl, h6, b6, _⟩
        have hf6 : Fr [] W3 w6 := fr_below hf b6 (by rw [HZ3.out]; exact Nat.le_refl _)
        have hI6 : Lib.IsBuilderF TB TU (w.heap.size + 1 + 1 + 1) (w.heap.size + 1 + 1 + 1) (Lib.byteCells (textL g t)) w6 := by
          rw [cells_app, HALL.out.2] at h6
          exact Or.inr h6
        have hz9 := b6.size
        go_wp2_with fail
        refine (Tryz.Builder_String_any_k (w.heap.size + 1 + 1 + 1) (w.heap.size + 1 + 1 + 1) (textL g t) _ hI6 (by omega)).mono ?_
        rintro e w7 ⟨rfl, _, b7, _⟩
        have hf7 : Fr [] W3 w7 := fr_below hf6 b7 (by rw [HZ3.out]; exact Nat.le_refl _)
        go_wp2
        go_ret
        exact ⟨rfl, hF3.trans hf7⟩
end

end Go.Proofs.YtippadnbngcjlaaGreatDoor
