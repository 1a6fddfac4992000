/- Texts of this seat, one behind the other: RSp. -/
import Derived.Test.YtippadnbngcjlaaGreatDoorh136
import Derived.Test.YtippadnbngcjlaaGreatDoorh141
namespace Go.Proofs.YtippadnbngcjlaaGreatDoor
set_option linter.unusedVariables false

/- spots and Spots of the reference. -/
section
open Go.RowKit
theorem elemRSp : Elem Tryz.prog 108 111 (.agg #[.int .i64 0, .string ⟨#[]⟩, .slice none 0 0, .int .i64 0, .int .u8 0, .slice none 0 0, .string ⟨#[]⟩, .int .i64 0]) 8 112 := ⟨Tryz.underlying108, by kernel_rfl, by kernel_rfl, by omega, by omega⟩
theorem encR_one (G : List SpR) : ∀ u ∈ G.flatMap encR, u.oneCell' = true := fun u hu => by
 obtain ⟨p, _, hp⟩ := List.mem_flatMap.1 hu
 simp [encR] at hp
 rcases hp with rfl | rfl | rfl | rfl | rfl | rfl | rfl | rfl <;> rfl
theorem fr_row {w wr w' : World} {gb g' : Nat} (h : Fr [gb] w wr) (k : Fr [g'] wr w') (hg : g' = gb ∨ w.heap.size ≤ g') : Fr [gb] w w' :=
 h.trans2 k fun x hx => by
  obtain rfl : x = g' := by simpa using hx
  rcases hg with rfl | hg
  ·exact .inl (by simp)
  ·exact .inr hg
def RetRSp (base N gb : Nat) (w : World) (G : List SpR) (l : List Sp) (e : Ending) (w' : World) : Prop :=
 ∃ (gb' c' : Nat) (G2 : List SpR), e = .returned (.slice (some ⟨gb', 0, none⟩) (G ++ G2).length c') ∧ Fr [gb] w w' ∧ (gb' = gb ∨ w.heap.size ≤ gb') ∧ G2.map (·.1.1) = l ∧
  w'.ownsRow base 111 8 (.slice (some ⟨gb', 0, none⟩) (G ++ G2).length c') (G ++ G2).length ((G ++ G2).flatMap encR) ∧ ∀ p ∈ G2, SpOk base N w' p.1
theorem cells_lit {w : World} {ty : TypeId} {ys : List Value} {g : Nat} (hg : g = w.heap.size) : Cells (w.alloc (.cells ys.toArray ty)) (some ⟨g, 0, none⟩) ys := fun _ => ⟨g, 0, rfl, fun j u hu => by
 have hb := Blk.new w ty ys.toArray g hg
 rw [Nat.zero_add]
 exact hb.cell j (by simpa using hu)⟩
theorem own_lt {w : World} {base sz n c g : Nat} {e : TypeId} {xs : List Value} (h : w.ownsRow base e sz (.slice (some ⟨g, 0, none⟩) n c) n xs) : base ≤ g ∧ g < w.heap.size := own_block h rfl
section
variable {S : Nat → Prop} {R : Option Addr → Nat → T → Prop} {w : World} {A : Option Addr} {c : Nat}
theorem RowsB.at_n {l : List (List T)} (h : RowsB S R w A c l) {i : Nat} (hi : i < l.length) : ∃ b off r A' c', A = some ⟨b, off, none⟩ ∧ ¬ S b ∧ Hid (l[i]? = some r) ∧ w.cell? ⟨b, off + i, none⟩ = some (.slice A' r.length c') ∧ RowB S R w A' c' r ∧ r.length ≤ 9223372036854775807 := by
 obtain ⟨b, off, hA, hn, hx⟩ := h.at0 (by omega)
 obtain ⟨A', c', h1, h2⟩ := hx i _ (List.getElem?_eq_getElem hi)
 exact ⟨b, off, _, A', c', hA, hn, List.getElem?_eq_getElem hi, h1, h2, by have h3 := h2.le; have h4 := h2.cap; unfold maxLen at h4; omega⟩
theorem RowB.at_n {r : List T} (h : RowB S R w A c r) {k : Nat} (hk : k < r.length) : ∃ b off x A' c', A = some ⟨b, off, none⟩ ∧ ¬ S b ∧ Hid (r[k]? = some x) ∧ w.cell? ⟨b, off + k * 3, none⟩ = some (.int .i64 x.kind) ∧ w.cell? ⟨b, off + k * 3 + 1, none⟩ = some (.string x.text) ∧
  w.cell? ⟨b, off + k * 3 + 2, none⟩ = some (.slice A' x.slots.length c') ∧ R A' c' x := by
 obtain ⟨b, off, hA, hn, hx⟩ := h.at0 (by omega)
 obtain ⟨h1, h2, A', c', h3, h4⟩ := hx k _ (List.getElem?_eq_getElem hk)
 exact ⟨b, off, _, A', c', hA, hn, List.getElem?_eq_getElem hk, h1, h2, h3, h4⟩
end
set_option maxRecDepth 20000 in
set_option maxHeartbeats 6400000 in
theorem refspots_any (A : Option Addr) (c : Nat) (g : List Ru) (w0 : World) (ha : RRu w0 A c g) (base N : Nat) (hb0 : w0.heap.size ≤ base) (nn : Nat) : ∀ (t : T) (AT : Option Addr) (cT : Nat) (w : World) (s : Sl) (d : Int) (z : Nat) (hk : Option Addr × Nat) (ab : Int) (k gb cb : Nat) (G : List SpR),
    nn ≤ N → Fr [] w0 w → base ≤ w.heap.size → RH (fun j => base ≤ j) nn w AT cT t → Val g t → G.length + t.nodes ≤ 2000 → 0 ≤ d → d + t.nodes ≤ 100000 →
    G[k]? = some ((⟨t, s, d, z⟩, (AT, cT), hk), ab) → w.ownsRow base 111 8 (.slice (some ⟨gb, 0, none⟩) G.length cb) G.length (G.flatMap encR) →
    Calls Tryz.prog 85 #[.agg #[.slice A g.length c], .slice (some ⟨gb, 0, none⟩) G.length cb, .int .i64 (k : Nat)] w (RetRSp base N gb w G (restT g t d)) := by
  induction nn with
  | zero => intro t AT cT w s d z hk ab k gb cb G _ _ _ h; exact absurd h id
  | succ n ih =>
    intro t AT cT w s d z hk ab k gb cb G hnN hf0 hbw hR hval hn hd0 hd hGk hG
    have hR : RowsB (fun j => base ≤ j) (fun A c x => RH (fun j => base ≤ j) n w A c x) w AT cT t.slots := hR
    have hl1 := hR.bound
    have hgb := ha.bound
    obtain ⟨r, hru, h16, hlen, _, _, hsub⟩ := val_parts hval
    obtain ⟨kk, hkk, hgk, hkl⟩ := ruleAt_some hru
    obtain ⟨b, off, r', A1, c1, rfl, hr, e0, e1, e2, e3, hSl⟩ := ha.at_ hkl
    obtain rfl : r = r' := Option.some.inj (hgk.symm.trans hr.out)
    have hsb := hSl.bound
    have hbl0 := World.block_lt_of_cell? w0 _ e3
    have hnl := spots_len t hval s d
    rw [spotsT_eq, List.length_cons, restT_eq hru d] at hnl
    have HRT := Lib.hid (restT_eq hru d)
    have HLEN := Lib.hid hlen
    have HSUB := Lib.hid hsub
    have HTOT : Hid (∀ i, ((r.slots.zip t.slots).take i |>.foldl (spotP g d) []).length + 1 ≤ t.nodes) := fun i => by
      have := fold_take_le (m := List.length) (spot_in_len (g := g) d) (r.slots.zip t.slots) [] i
      omega
    obtain ⟨hgb1, hgb2⟩ := own_lt hG
    have hkG : k < G.length := (List.getElem?_eq_some_iff.1 hGk).1
    have HGK := Lib.hid hGk
    have HN := Lib.hid hnN
    have cG := fun j u hu => own_at hG (encR_at G k _ hGk j u hu)
    have g0 : w.cell? ⟨gb, k * 8, none⟩ = some (.int .i64 kk) := by rw [← hkk]; exact cG 0 _ rfl
    have g1 : w.cell? ⟨gb, k * 8 + 1, none⟩ = some (.string t.text) := cG 1 _ rfl
    have g2 : w.cell? ⟨gb, k * 8 + 2, none⟩ = some (.slice AT t.slots.length cT) := cG 2 _ rfl
    clear cG hru hval hgk hsub hlen hnl hGk hnN
    have HKK := Lib.hid hkk
    clear hkk
    obtain ⟨W1, hW1⟩ : ∃ W, W = w.alloc (.cells #[.slice (some ⟨b, off, none⟩) g.length c] 24) := ⟨_, rfl⟩
    have hF1 : Fr [] w W1 := by rw [hW1]; exact frx
    have hB1 : Blk W1 w.heap.size 24 #[.slice (some ⟨b, off, none⟩) g.length c] := by rw [hW1]; exact Blk.new w _ _ _ rfl
    have g0 := hF1.cell g0 (by simp)
    have g1 := hF1.cell g1 (by simp)
    have g2 := hF1.cell g2 (by simp)
    have hG1 := own_fr hG hF1 (by simp)
    have HZ1 : Hid (W1.heap.size = w.heap.size + 1) := by show _ = _; rw [hW1]; simp
    obtain ⟨W2, hW2⟩ : ∃ W, W = W1.alloc (.cells #[.int .i64 kk, .string t.text, .slice AT t.slots.length cT] 27) := ⟨_, rfl⟩
    have hF2 : Fr [] W1 W2 := by rw [hW2]; exact frx
    have hB2 : Blk W2 (w.heap.size + 1) 27 #[.int .i64 kk, .string t.text, .slice AT t.slots.length cT] := by rw [hW2]; exact Blk.new _ _ _ _ HZ1.out.symm
    have hB1 := hB1.fr hF2 (by simp)
    have hG2 := own_fr hG1 hF2 (by simp)
    have hF := hF1.trans hF2
    rw [hW1] at g0 g1 g2
    have HW1 := Lib.hid hW1.symm
    have HW2 := Lib.hid hW2.symm
    clear hW1 hW2 hF1 hF2 hG1
    go_enter Tryz.func85, Tryz.ntmps85
    go_wp2_with fail
    rw [HW1.out, HW2.out]
    clear g0 g1 g2
    go_loopw [1, 8] (fun lv iv wr => ∃ (i g9 c9 : Nat) (H G2 : List SpR), i ≤ t.slots.length ∧ iv = .int .i64 i ∧ lv = .slice (some ⟨g9, 0, none⟩) H.length c9 ∧ Hid (H = G ++ G2) ∧ Hid (G2.map (·.1.1) = ((r.slots.zip t.slots).take i).foldl (spotP g d) []) ∧
      wr.ownsRow base 111 8 (.slice (some ⟨g9, 0, none⟩) H.length c9) H.length (H.flatMap encR) ∧ Hid (∀ p ∈ G2, SpOk base N wr p.1) ∧ Blk wr w.heap.size 24 #[.slice (some ⟨b, off, none⟩) g.length c] ∧
      Blk wr (w.heap.size + 1) 27 #[.int .i64 kk, .string t.text, .slice AT t.slots.length cT] ∧ Fr [gb] w wr ∧ Hid (g9 = gb ∨ w.heap.size + 2 ≤ g9)) (fun _ i _ => t.slots.length - (intOf i).toNat)
    case atStart => exact ⟨0, gb, cb, G, [], Nat.zero_le _, rfl, rfl, (by show _ = _; simp), rfl, hG2, (fun p hp => by cases hp), hB1, hB2, hF.mono (by simp), .inl rfl⟩
    case round =>
      clear hG2 hB1 hB2 hF
      obtain ⟨i, g9, c9, H, G2, hi, rfl, rfl, hHG, hGm, hG9, hGo, hB1, hB2, hf, hg9⟩ := hrel
      have hbk := HTOT.out i
      have p0 := hB2.cell 0 rfl
      have p2 := hB2.cell 2 rfl
      by_cases hlt : i < t.slots.length
      · obtain ⟨b2, off2, s', A4, c4, rfl, hs, hm, s0, s1, hks', s2⟩ := hSl.at_ (k := i) (by rw [← HLEN.out]; exact hlt)
        have hkr : i < r.slots.length := by rw [← HLEN.out]; exact hlt
        have hb2l := World.block_lt_of_cell? w0 _ s0
        obtain ⟨b4, off4, q, A5, c5, rfl, hb4, hq, hcw, hRow, hlq⟩ := hR.at_n (i := i) hlt
        have hc := hf.cell hcw (by simp; omega)
        have hz : (r.slots.zip t.slots)[i]? = some (s', q) := zip_at hs hq
        have HZP := Lib.hid (fold_take (f := spotP g d) (b := []) (show Hid _ from hz))
        have hbk1 := HTOT.out (i + 1)
        rw [HZP.out] at hbk1
        have HQ := Lib.hid (HSUB.out q (List.mem_of_getElem? hq.out))
        have hlow' : Hid (∀ a, A4 = some a → 0 < s'.kinds.length → a.block < base) := fun a h h0 => Nat.lt_of_lt_of_le (hks'.lt h0 a h) hb0
        clear hz
        generalize ((r.slots.zip t.slots).take i).foldl (spotP g d) [] = out at *
        go_wp2_with fail
        go_loopw [1, 9] (fun lv jv wr => ∃ (m g9 c9 : Nat) (H G2 : List SpR), m ≤ q.length ∧ jv = .int .i64 m ∧ lv = .slice (some ⟨g9, 0, none⟩) H.length c9 ∧ Hid (H = G ++ G2) ∧ Hid (G2.map (·.1.1) = (q.take m).foldl (spotX g s' d) out) ∧
          wr.ownsRow base 111 8 (.slice (some ⟨g9, 0, none⟩) H.length c9) H.length (H.flatMap encR) ∧ Hid (∀ p ∈ G2, SpOk base N wr p.1) ∧ Blk wr w.heap.size 24 #[.slice (some ⟨b, off, none⟩) g.length c] ∧
          Blk wr (w.heap.size + 1) 27 #[.int .i64 kk, .string t.text, .slice (some ⟨b4, off4, none⟩) t.slots.length cT] ∧ Fr [gb] w wr ∧ Hid (g9 = gb ∨ w.heap.size + 2 ≤ g9)) (fun _ j _ => q.length - (intOf j).toNat)
        case atStart => exact ⟨0, g9, c9, H, G2, Nat.zero_le _, rfl, rfl, hHG, hGm, hG9, hGo, hB1, hB2, hf, hg9⟩
        case round =>
          clear hHG hGm hG9 hGo hB1 hB2 hf hg9 hc p0 p2
          obtain ⟨m, g9, c9, H, G2, hm', rfl, rfl, hHG, hGm, hG9, hGo, hB1, hB2, hf, hg9⟩ := hrel
          have p0 := hB2.cell 0 rfl
          have p2 := hB2.cell 2 rfl
          by_cases hlt2 : m < q.length
          · obtain ⟨b6, off6, x, A6, c6, rfl, hb6, hx, f0, f1, f2, hX⟩ := hRow.at_n hlt2
            have hc := hf.cell hcw (by simp; omega)
            have f0 := hf.cell f0 (by simp; omega)
            have f1 := hf.cell f1 (by simp; omega)
            have f2 := hf.cell f2 (by simp; omega)
            have hxv := Lib.hid (HQ.out x (List.mem_of_getElem? hx.out))
            have HXT := Lib.hid (fold_take (f := spotX g s' d) (b := out) hx)
            have hxl := spots_len x hxv.out s' (d + 1)
            have hbm := fold_take_le (m := List.length) (f := spotX g s' d) (fun b x => by simp [spotX]) q out (m + 1)
            rw [HXT.out] at hbm
            have hbm2 : ((q.take m).foldl (spotX g s' d) out).length + x.nodes + 1 ≤ t.nodes := by
              have h1 : ((q.take m).foldl (spotX g s' d) out ++ spotsT g x s' (d + 1)).length ≤ (q.foldl (spotX g s' d) out).length := hbm
              have h2 : (q.foldl (spotX g s' d) out).length + 1 ≤ t.nodes := hbk1
              rw [List.length_append, hxl] at h1
              omega
            have hHl : H.length = G.length + ((q.take m).foldl (spotX g s' d) out).length := by
              rw [hHG.out, List.length_append, ← hGm.out, List.length_map]
            have hHk : H[k]? = some ((⟨t, s, d, z⟩, (some ⟨b4, off4, none⟩, cT), hk), ab) := by
              rw [hHG.out, List.getElem?_append_left hkG]
              exact HGK.out
            have hxn := T.nodes_pos x
            have hxb := nodes_below hq hx
            have hd1 : 0 ≤ d + 1 := by omega
            have hd2 : d + 1 + x.nodes ≤ 100000 := by omega
            have hb8 : (H.length + 1) + x.nodes ≤ 2000 := by omega
            have hbig : (H.length + 1) * 112 ≤ 140737488355328 := by omega
            have HHK := Lib.hid hHk
            have y7 : wr.cell? ⟨g9, k * 8 + 7, none⟩ = some (.int .i64 d) := own_at hG9 (encR_at H k _ hHk 7 _ rfl)
            obtain ⟨hg91, hg92⟩ := own_lt hG9
            have hne0 : w.heap.size ≠ g9 := by have := hg9.out; omega
            have hne1 : w.heap.size + 1 ≠ g9 := by have := hg9.out; omega
            have hfw0 : Fr [gb] w0 wr := (hf0.mono (by simp)).trans hf
            have e3 := hfw0.cell e3 (by simp; omega)
            have s0 := hfw0.cell s0 (by simp; omega)
            have s1 := hfw0.cell s1 (by simp; omega)
            have s2 := hfw0.cell s2 (by simp; omega)
            have q0 : wr.cell? ⟨w.heap.size, 0, none⟩ = some (.slice (some ⟨b, off, none⟩) g.length c) := hB1.cell 0 rfl
            have p0 : wr.cell? ⟨w.heap.size + 1, 0, none⟩ = some (.int .i64 kk) := hB2.cell 0 rfl
            have p2 : wr.cell? ⟨w.heap.size + 1, 2, none⟩ = some (.slice (some ⟨b4, off4, none⟩) t.slots.length cT) := hB2.cell 2 rfl
            have hkH : k < H.length := by omega
            have hwr : Hid (IntKind.i64.wrap (d + 1) = d + 1) := IntWalk.i64_in _ (by omega)
            obtain ⟨z2, hz2⟩ : ∃ z2, z2 = 1 + (restT g x (d + 1)).length := ⟨_, rfl⟩
            obtain ⟨px, hpx⟩ : ∃ px : SpR, px = ((⟨x, s', d + 1, z2⟩, (A6, c6), (A4, c4)), (k : Int)) := ⟨_, rfl⟩
            have HXE : Hid (spotsT g x s' (d + 1) = ⟨x, s', d + 1, z2⟩ :: restT g x (d + 1)) := by show _ = _; rw [hz2]; exact spotsT_eq g x s' (d + 1)
            have HPX := Lib.hid hpx
            have hpe : encR px = [.int .i64 x.kind, .string x.text, .slice A6 x.slots.length c6, .int .i64 (k : Nat), .int .u8 s'.many, .slice A4 s'.kinds.length c4, .string s'.between, .int .i64 (d + 1)] := by rw [hpx]; rfl
            have HPE := Lib.hid hpe
            have h1c : ∀ u ∈ [Value.int .i64 x.kind, .string x.text, .slice A6 x.slots.length c6, .int .i64 (k : Nat), .int .u8 s'.many, .slice A4 s'.kinds.length c4, .string s'.between, .int .i64 (d + 1)], u.oneCell' = true := fun u hu => by
              have h := encR_one [px]
              rw [List.flatMap_cons, HPE.out] at h
              exact h u (by simpa using hu)
            have HY7 : Hid ((H.flatMap encR)[k * 8 + 7]? = some (.int .i64 d)) := encR_at H k _ hHk 7 _ rfl
            have hbr : base ≤ wr.heap.size := Nat.le_trans hbw hf.size
            clear hHl hbm hbm2 hxl hHk hz2 hpx hpe
            go_wp2_with fail
            go_region_held3 (fun w' => w'.cell? ⟨w.heap.size + 1, 0, none⟩ = some (.int .i64 kk) ∧ w'.cell? ⟨w.heap.size + 1, 2, none⟩ = some (.slice (some ⟨b4, off4, none⟩) t.slots.length cT) ∧ w'.cell? ⟨b4, off4 + i, none⟩ = some (.slice (some ⟨b6, off6, none⟩) q.length c5) ∧ w'.cell? ⟨b6, off6 + m * 3, none⟩ = some (.int .i64 x.kind) ∧ w'.cell? ⟨b6, off6 + m * 3 + 1, none⟩ = some (.string x.text) ∧ w'.cell? ⟨b6, off6 + m * 3 + 2, none⟩ = some (.slice A6 x.slots.length c6) ∧
                w'.cell? ⟨w.heap.size, 0, none⟩ = some (.slice (some ⟨b, off, none⟩) g.length c) ∧ w'.cell? ⟨b, off + kk * 4 + 3, none⟩ = some (.slice (some ⟨b2, off2, none⟩) r.slots.length c1) ∧ w'.cell? ⟨b2, off2 + i * 3, none⟩ = some (.int .u8 s'.many) ∧ w'.cell? ⟨b2, off2 + i * 3 + 1, none⟩ = some (.slice A4 s'.kinds.length c4) ∧ w'.cell? ⟨b2, off2 + i * 3 + 2, none⟩ = some (.string s'.between) ∧ w'.cell? ⟨g9, k * 8 + 7, none⟩ = some (.int .i64 d))
              (first
                | with_reducible exact ⟨hFg.cell p0 (by simp; omega), hFg.cell p2 (by simp; omega), hFg.cell hc (by simp; omega), hFg.cell f0 (by simp; omega), hFg.cell f1 (by simp; omega), hFg.cell f2 (by simp; omega), hFg.cell q0 (by simp; omega), hFg.cell e3 (by simp; omega), hFg.cell s0 (by simp; omega), hFg.cell s1 (by simp; omega), hFg.cell s2 (by simp; omega), hk8⟩
                | (go_keep; done))
              ((rw [hwr.out]; refine step_append_k rfl (.tmp 35) (.tmp 62) _ rfl elemRSp (H.flatMap encR) (n := H.length) (g := g9) (cap := c9) (base := base) ?_ ?_ wr.heap.size 1 1 [.int .i64 x.kind, .string x.text, .slice A6 x.slots.length c6, .int .i64 (k : Nat), .int .u8 s'.many, .slice A4 s'.kinds.length c4, .string s'.between, .int .i64 (d + 1)] ?_ ?_ ?_ ?_ ?_ ?_ ?_ ?_ ?_; (focus (rfl; done)); (focus (exact hG9.alloc _; done)); (focus (rfl; done)); (focus (exact cells_lit rfl; done)); (focus (rfl; done)); (focus (exact Nat.one_pos; done)); (focus (exact Nat.le_refl _; done)); (focus (exact h1c; done)); (focus (exact hbig; done)); (focus (exact Nat.le_trans hbr (by simp); done)); intro A7 c7 w7 ho7 hg7 hat7 hk7; have hFg : Fr [g9] wr w7 := Fr.grown frx hg7 (fun j hj => .inl (List.mem_singleton.2 (Option.some.inj hj).symm)); have hk8 : w7.cell? ⟨g9, k * 8 + 7, none⟩ = some (.int .i64 d) := hk7 (k * 8 + 7) (.int .i64 d) HY7.out))
            have hF7 : Fr [gb] w w7 := fr_row hf hFg (by have := hg9.out; omega)
            have hF70 : Fr [] w0 w7 := hf0.trans2 hF7 fun j hj => .inr (by obtain rfl : j = gb := by simpa using hj
                                                                           omega)
            have hz7 := hF7.size
            obtain ⟨g7, rfl, hg71, hg72⟩ := own_some ho7 (by omega)
            have hat7 : g7 = g9 ∨ g7 = wr.heap.size + 1 := by simpa [Value.ownBlock] using hat7
            have hzr := hf.size
            have hzw : w.heap.size + 2 ≤ wr.heap.size := by
              have := World.block_lt_of_cell? wr _ p0
              simp at this
              omega
            have hg77 : g7 = gb ∨ w.heap.size + 2 ≤ g7 := by have := hg9.out; omega
            have hne70 : w.heap.size ≠ g7 := by omega
            have hne71 : w.heap.size + 1 ≠ g7 := by omega
            obtain ⟨H1, hH1⟩ : ∃ H1, H1 = H ++ [px] := ⟨_, rfl⟩
            have hlen7 : H.length + 1 = H1.length := by rw [hH1]; simp
            have hol : w7.ownsRow base 111 8 (.slice (some ⟨g7, 0, none⟩) H1.length c7) H1.length (H1.flatMap encR) := by
              rw [← hlen7, hH1, List.flatMap_append, List.flatMap_cons, List.flatMap_nil, List.append_nil, HPE.out]
              exact ho7
            have hB1 := hB1.fr hFg (by simp; omega)
            have hB2 := hB2.fr hFg (by simp; omega)
            have hxr : RH (fun j => base ≤ j) n w7 A6 c6 x := hX.fr hF7 fun j hj => by obtain rfl : j = gb := by simpa using hj
                                                                                       exact hgb1
            have q0 : w7.cell? ⟨w.heap.size, 0, none⟩ = some (.slice (some ⟨b, off, none⟩) g.length c) := hB1.cell 0 rfl
            have hokx : SpOk base N w7 px.1 := by
              rw [HPX.out]
              exact ⟨hxr.mono (by have := HN.out; omega), hks'.fr0 hF70, hlow'.out⟩
            have hpx2 : H1[H.length]? = some ((⟨x, s', d + 1, z2⟩, (A6, c6), (A4, c4)), (k : Int)) := by
              rw [hH1, ← HPX.out, List.getElem?_append_right (Nat.le_refl _), Nat.sub_self]
              rfl
            have HPX2 := Lib.hid hpx2
            have HOKX := Lib.hid hokx
            have HOL := Lib.hid hol
            clear hpx2 hokx hol ho7 hk7 hk8 hg7 p0 p2 f0 f1 f2 s0 s1 s2 e3 y7 hc
            rw [hlen7]
            have HH1 := Lib.hid hH1
            have hb9 : H1.length + x.nodes ≤ 2000 := by omega
            clear hlen7 hat7 hH1
            go_wp2_with fail
            refine (ih x A6 c6 _ s' (d + 1) z2 (A4, c4) (k : Int) H.length g7 c7 H1 (by have := HN.out; omega) hF70 (by omega) hxr hxv.out hb9 hd1 hd2 HPX2.out HOL.out).mono ?_
            rintro e wa ⟨ga, ca, G3, rfl, hfa, hga, hG3m, hoa, hG3o⟩
            have hG3m := Lib.hid hG3m
            have hG3o := Lib.hid hG3o
            go_wp2_with fail
            go_roundw
            case rel =>
              refine ⟨m + 1, ga, ca, H1 ++ G3, G2 ++ ([px] ++ G3), by omega, by go_num, by rw [List.length_append], ?_, ?_, hoa, ?_, hB1.fr hfa (by simp; omega), hB2.fr hfa (by simp; omega), fr_row hF7 hfa (by omega), ?_⟩
              · show _ = _
                rw [HH1.out, hHG.out, List.append_assoc, List.append_assoc]
              · show _ = _
                rw [List.map_append, hGm.out, List.map_append, hG3m.out, HXT.out]
                show _ ++ ([px.1.1] ++ _) = _ ++ spotsT g x s' (d + 1)
                rw [HXE.out, HPX.out]
                rfl
              · intro p hp
                have hZ : ∀ j ∈ [g7], base ≤ j := fun j hj => by obtain rfl : j = g7 := by simpa using hj
                                                                 exact hg71
                rcases List.mem_append.1 hp with hp | hp
                · exact (SpOk.fr (Z := [g9]) (hGo.out p hp) hFg (fun j hj => by obtain rfl : j = g9 := by simpa using hj
                                                                                exact hg91)).fr hfa hZ
                · rcases List.mem_append.1 hp with hp | hp
                  · obtain rfl : p = px := by simpa using hp
                    exact HOKX.out.fr hfa hZ
                  · exact hG3o.out p hp
              · have := hFg.size
                show _ ∨ _
                omega
            case measure => simp [intOf]; omega
          · obtain rfl : m = q.length := by omega
            have hc := hf.cell hcw (by simp; omega)
            go_wp2_with fail
            go_roundw
            case rel =>
              refine ⟨i + 1, g9, c9, H, G2, by omega, by go_num, rfl, hHG, ?_, hG9, hGo, hB1, hB2, hf, hg9⟩
              rw [HZP.out]
              show _ = q.foldl _ _
              rw [hGm.out, List.take_length]
            case measure => simp [intOf]; omega
      · obtain rfl : i = t.slots.length := by omega
        go_wp2
        go_ret
        rw [HRT.out]
        refine ⟨g9, c9, G2, ?_, hf, ?_, ?_, ?_, hGo.out⟩
        · rw [hHG.out]
          rfl
        · have := hg9.out; omega
        · rw [hGm.out, List.take_of_length_le (by rw [List.length_zip]; omega)]
        · rw [← hHG.out]; exact hG9

set_option maxRecDepth 20000 in
set_option maxHeartbeats 1600000 in
theorem refSpots_any (A : Option Addr) (c : Nat) (g : List Ru) (n : Nat) (t : T) (v : Value) (S : Nat → Prop) (w : World) (ha : RRu w A c g) (ht : RT S n w v t) (hval : Val g t) (hn : t.nodes ≤ 1024) :
    Calls Tryz.prog 64 #[.agg #[.slice A g.length c], v] w (RetSpR g t n w) := by
  obtain ⟨AT, cT, rfl, hR⟩ := ht
  have hR := hR.sub (S' := fun k => w.heap.size ≤ k) (fun k h1 h2 => absurd h1 (Nat.not_lt.2 h2))
  have hl := spots_len t hval slot0 1
  obtain ⟨z0, hz0⟩ : ∃ z0, z0 = 1 + (restT g t 1).length := ⟨_, rfl⟩
  obtain ⟨sp, hsp⟩ : ∃ sp : SpR, sp = ((⟨t, slot0, 1, z0⟩, (AT, cT), (none, 0)), -1) := ⟨_, rfl⟩
  have hpe : [sp].flatMap encR = [.int .i64 t.kind, .string t.text, .slice AT t.slots.length cT, .int .i64 (-1), .int .u8 0, .slice none 0 0, .string emptyS, .int .i64 1] := by rw [hsp]; rfl
  have hse : spotsT g t slot0 1 = sp.1.1 :: restT g t 1 := by rw [hsp, hz0]; exact spotsT_eq g t slot0 1
  obtain ⟨W, hW⟩ : ∃ W, W = (w.alloc (.cells #[.slice A g.length c] 24)).alloc (.cells (tcells t AT cT) 27) := ⟨_, rfl⟩
  have hF : Fr [] w W := by rw [hW]; exact frx
  have hz : W.heap.size = w.heap.size + 1 + 1 := by rw [hW]; simp
  have hB1 : Blk W w.heap.size 24 #[.slice A g.length c] := by rw [hW]; exact (Blk.new w _ _ _ rfl).alloc _
  have hB2 : Blk W (w.heap.size + 1) 27 (tcells t AT cT) := by rw [hW]; exact Blk.new _ _ _ _ (by simp)
  obtain ⟨W2, hW2⟩ : ∃ W2, W2 = W.alloc (.cells #[.int .i64 t.kind, .string t.text, .slice AT t.slots.length cT, .int .i64 (-1), .int .u8 0, .slice none 0 0, .string emptyS, .int .i64 1] 111) := ⟨_, rfl⟩
  have hF2 : Fr [] w W2 := by rw [hW2]; exact hF.alloc _
  have hown : W2.ownsRow (w.heap.size + 1 + 1) 111 8 (.slice (some ⟨w.heap.size + 1 + 1, 0, none⟩) 1 1) 1 ([sp].flatMap encR) := by
    rw [hpe, hW2]
    exact own_one_g _ _ hz.symm rfl
  have hown := own_base hown (show w.heap.size ≤ w.heap.size + 1 + 1 by omega)
  have hRW := hR.fr0 hF2
  have hC := refspots_any A c g w ha w.heap.size n (Nat.le_refl _) n t AT cT W2 slot0 1 z0 (none, 0) (-1) 0 (w.heap.size + 1 + 1) 1 [sp] (Nat.le_refl _) hF2 hF2.size hRW hval (by simp; omega) (by omega) (by omega) (by rw [hsp]; rfl) hown
  have hC : Calls Tryz.prog 85 #[.agg #[.slice A g.length c], .slice (some ⟨w.heap.size + 1 + 1, 0, none⟩) 1 1, .int .i64 0] W2 (RetRSp w.heap.size n (w.heap.size + 1 + 1) W2 [sp] (restT g t 1)) := hC
  have hokp : SpOk w.heap.size n W2 sp.1 := by rw [hsp]; exact ⟨hRW, Rd.nil_ _ _, fun a h => by cases h⟩
  have q0 := hB1.cell 0 rfl
  have p0 := hB2.cell 0 rfl
  have p1 := hB2.cell 1 rfl
  have p2 := hB2.cell 2 rfl
  rw [hW] at q0 p0 p1 p2
  rw [hW] at hW2
  have HW2 := Lib.hid hW2.symm
  have HL := Lib.hid hl
  have HSE := Lib.hid hse
  have HC := Lib.hid hC
  clear hW hz hl hpe hse hsp hz0 hW2 hC
  go_enter Tryz.func64, Tryz.ntmps64
  go_wp2_with fail
  simp only [tcells] at HW2
  rw [HW2.out]
  refine HC.out.mono ?_
  rintro e wa ⟨ga, ca, G2, rfl, hfa, _, hGm, hoa, hGo⟩
  have hfw : Fr [] w wa := hF2.trans2 hfa fun j hj => .inr (by obtain rfl : j = w.heap.size + 1 + 1 := by simpa using hj
                                                               omega)
  have hle : ([sp] ++ G2).length = t.nodes := by
    rw [← HL.out, HSE.out, ← hGm]
    simp
  have hR2 : RetSpR g t n w (.returned (.slice (some ⟨ga, 0, none⟩) ([sp] ++ G2).length ca)) wa := by
    refine ⟨some ⟨ga, 0, none⟩, ca, [sp] ++ G2, ?_, hfw, ?_, Cells.of_own hoa, ?_⟩
    · rw [hle]
    · rw [HSE.out, List.map_append, hGm]
      rfl
    · intro p hp
      rcases List.mem_append.1 hp with hp | hp
      · obtain rfl : p = sp := by simpa using hp
        exact hokp.fr hfa fun j hj => by obtain rfl : j = w.heap.size + 1 + 1 := by simpa using hj
                                         omega
      · exact hGo p hp
  have HR2 := Lib.hid hR2
  clear hR2
  go_wp2_with fail
  go_ret
  exact HR2.out
end

end Go.Proofs.YtippadnbngcjlaaGreatDoor
