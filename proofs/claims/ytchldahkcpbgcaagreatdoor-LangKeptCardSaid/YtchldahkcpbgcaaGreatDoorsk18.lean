/- Texts of this seat, one behind the other: ParL. -/
import Derived.Test.YtchldahkcpbgcaaGreatDoorsk17
import Derived.Deep.RegionHeld3
import Derived.BigQuiet
namespace Go.Proofs.YtchldahkcpbgcaaGreatDoor
set_option linter.unusedVariables false

/- levels, operator of the parser. -/
section
open Go.RowKit
set_option linter.unusedSimpArgs false
def Lvls (w : World) (b : Nat) : Prop := ∀ lv, lv < 5 → ∃ A c, w.cell? ⟨b, lv, none⟩ = some (.slice A (opsOf lv).length c) ∧ Rd w .string A c (opsOf lv)
set_option maxRecDepth 20000 in
set_option maxHeartbeats 3200000 in
theorem levels_any (w : World) : Calls Tryz.prog 253 #[] w (fun en w' => ∃ b, en = .returned (.slice (some ⟨b, 0, none⟩) 5 5) ∧ Fr [] w w' ∧ Lvls w' b) := by
 go_enter Tryz.func253, Tryz.ntmps253
 go_wp2_with fail
 go_ret
 refine ⟨w.heap.size + 5, rfl, frx, ?_⟩
 have f1 : ∀ (v : World) (cs : Array Value) (t : TypeId), Fr [] v (v.alloc (.cells cs t)) := fun v cs t => (Fr.refl _ _).alloc _
 intro lv hlv
 match lv, hlv with
 | 0, _ => exact ⟨_, _, (Blk.new _ _ _ (w.heap.size + 5) (by simp)).cell 0 rfl, Rd.of_blk (xs := opsOf 0) ((((((Blk.new w _ _ _ rfl).fr (f1 _ _ _) (by simp)).fr (f1 _ _ _) (by simp)).fr (f1 _ _ _) (by simp)).fr (f1 _ _ _) (by simp)).fr (f1 _ _ _) (by simp)) (by decide)⟩
 | 1, _ => exact ⟨_, _, (Blk.new _ _ _ (w.heap.size + 5) (by simp)).cell 1 rfl, Rd.of_blk (xs := opsOf 1) (((((Blk.new _ _ _ (w.heap.size + 1) (by simp)).fr (f1 _ _ _) (by simp)).fr (f1 _ _ _) (by simp)).fr (f1 _ _ _) (by simp)).fr (f1 _ _ _) (by simp)) (by decide)⟩
 | 2, _ => exact ⟨_, _, (Blk.new _ _ _ (w.heap.size + 5) (by simp)).cell 2 rfl, Rd.of_blk (xs := opsOf 2) ((((Blk.new _ _ _ (w.heap.size + 2) (by simp)).fr (f1 _ _ _) (by simp)).fr (f1 _ _ _) (by simp)).fr (f1 _ _ _) (by simp)) (by decide)⟩
 | 3, _ => exact ⟨_, _, (Blk.new _ _ _ (w.heap.size + 5) (by simp)).cell 3 rfl, Rd.of_blk (xs := opsOf 3) (((Blk.new _ _ _ (w.heap.size + 3) (by simp)).fr (f1 _ _ _) (by simp)).fr (f1 _ _ _) (by simp)) (by decide)⟩
 | 4, _ => exact ⟨_, _, (Blk.new _ _ _ (w.heap.size + 5) (by simp)).cell 4 rfl, Rd.of_blk (xs := opsOf 4) ((Blk.new _ _ _ (w.heap.size + 4) (by simp)).fr (f1 _ _ _) (by simp)) (by decide)⟩
section
variable {X : Px} {i j : Nat}
def Px.Op (X : Px) (w : World) (i : Nat) : Option ByteArray → Ending → World → Prop
 | none => fun en w' => en = .returned (.tuple #[.string ⟨#[]⟩, .bool false]) ∧ Fr [X.pb] w w' ∧ X.At w' i
 | some t => fun en w' => en = .returned (.tuple #[.string t, .bool true]) ∧ Fr [X.pb] w w' ∧ X.At w' (i + 1)
theorem opW_eq (ws : List Wd) (i lv : Nat) : opW ws i lv = if kindAt ws i = 3 ∧ inS (opsOf lv) (textAt ws i) = true then some (textAt ws i) else none := by
  unfold opW kindAt textAt
  cases ws[i]? with
  | none => simp
  | some w =>
    have h3 := pk_3 w.what
    have h4 : (opsOf lv).any (fun t => decide (w.text = t)) = true ↔ inS (opsOf lv) w.text = true := by
      rw [inS_iff]
      simp
    simp only
    by_cases h : (w.what ≠ 0 ∧ w.what ≠ 2) ∧ (opsOf lv).any (fun t => decide (w.text = t)) = true
    · rw [if_pos h, if_pos ⟨h3.2 h.1, h4.1 h.2⟩]
    · rw [if_neg h, if_neg fun h' => h ⟨h3.1 h'.1, h4.2 h'.2⟩]
set_option maxRecDepth 20000 in
set_option maxHeartbeats 6400000 in
theorem operator_any (lv : Nat) (hlv : lv < 5) (w : World) (h : X.At w i) : Calls Tryz.prog 255 #[X.p, .int .i64 lv] w (X.Op w i (opW X.ws i lv)) := by
  have HP := Lib.hid (peek_any w h X.hm)
  have HW := Lib.hid (opW_eq X.ws i lv)
  have hle := h.le
  have hml := X.hm
  have hpl := X.lt h
  have hl0 : (0 : Int) ≤ lv := by omega
  have hl5 : (lv : Int) < 5 := by omega
  have hlt : ∀ t, opW X.ws i lv = some t → i < X.ws.length := fun t ht => opW_lt ht
  have HLT := Lib.hid hlt
  clear hlt
  generalize hR : opW X.ws i lv = R at *
  generalize kindAt X.ws i = kd at *
  generalize textAt X.ws i = tx at *
  generalize placeAt X.ws X.e i = pt at *
  clear hR
  by_cases hk : kd = 3
  · subst hk
    cases hb : inS (opsOf lv) tx with
    | false =>
      have hN : R = none := by rw [HW.out, hb]; simp
      subst hN
      clear HW
      have HB := Lib.hid hb
      clear hb
      go_enter Tryz.func255, Tryz.ntmps255
      go_wp2_with fail
      refine HP.out.mono ?_
      rintro en w1 ⟨rfl, hf1⟩
      obtain ⟨W, hW⟩ : ∃ W, W = w1.alloc (.cells #[.int .u8 3, .string tx, .int .i64 pt] 183) := ⟨_, rfl⟩
      have hW1 : Fr [] w1 W := by rw [hW]; exact frx
      have hBk : Blk W w1.heap.size 183 #[.int .u8 3, .string tx, .int .i64 pt] := by rw [hW]; exact Blk.new _ _ _ _ rfl
      have a1 := (h.fr0 hf1).fr0 hW1
      have k0 : W.cell? ⟨w1.heap.size, 0, none⟩ = some (.int .u8 3) := hBk.cell 0 rfl
      have k1 : W.cell? ⟨w1.heap.size, 1, none⟩ = some (.string tx) := hBk.cell 1 rfl
      have HV := Lib.hid hW.symm
      clear hW
      go_wp2_with fail
      rw [HV.out]
      go_region_with
        (first
          | (go_at_call 253; refine (levels_any _).mono ?_; rintro e wa ⟨bL, rfl, hfa, hL⟩; have hFa : Fr [] W wa := (Fr.trans frx hfa); obtain ⟨AL, cL, l0, l1⟩ := hL lv hlv; have k0 := hFa.cell k0 (by simp); have k1 := hFa.cell k1 (by simp))
          | (go_at_call 142; refine (Contains_any AL cL (opsOf lv) tx _ (l1.fr0 frx)).mono ?_; rw [HB.out]; rintro e wb ⟨rfl, nn, rfl⟩))
      all_goals go_wp2_with fail
      all_goals go_ret2
      all_goals exact ⟨rfl, (hf1.trans (Fr.trans hW1 (Fr.trans hFa frx))).mono (by simp), a1.fr0 (Fr.trans hFa frx)⟩
    | true =>
      have hN : R = some tx := by rw [HW.out, hb]; simp
      subst hN
      have hi := HLT.out tx rfl
      clear HW
      have HB := Lib.hid hb
      clear hb
      go_enter Tryz.func255, Tryz.ntmps255
      go_wp2_with fail
      refine HP.out.mono ?_
      rintro en w1 ⟨rfl, hf1⟩
      obtain ⟨W, hW⟩ : ∃ W, W = w1.alloc (.cells #[.int .u8 3, .string tx, .int .i64 pt] 183) := ⟨_, rfl⟩
      have hz1 := hf1.size
      have hW1 : Fr [] w1 W := by rw [hW]; exact frx
      have hBk : Blk W w1.heap.size 183 #[.int .u8 3, .string tx, .int .i64 pt] := by rw [hW]; exact Blk.new _ _ _ _ rfl
      have a1 := (h.fr0 hf1).fr0 hW1
      have k0 : W.cell? ⟨w1.heap.size, 0, none⟩ = some (.int .u8 3) := hBk.cell 0 rfl
      have k1 : W.cell? ⟨w1.heap.size, 1, none⟩ = some (.string tx) := hBk.cell 1 rfl
      have HV := Lib.hid hW.symm
      clear hW
      go_wp2_with fail
      rw [HV.out]
      go_region_with
        (first
          | (go_at_call 253; refine (levels_any _).mono ?_; rintro e wa ⟨bL, rfl, hfa, hL⟩; have hFa : Fr [] W wa := (Fr.trans frx hfa); obtain ⟨AL, cL, l0, l1⟩ := hL lv hlv; have k0 := hFa.cell k0 (by simp); have k1 := hFa.cell k1 (by simp); have aA := a1.fr0 hFa; have p1 := aA.blk.cell 1 rfl; have z1 := aA.blk.frozen 1; have hBa := hBk.fr hFa (by simp); have t1 : ∀ v, (wa.setCell ⟨X.pb, 1, none⟩ v).cell? ⟨w1.heap.size, 1, none⟩ = some (.string tx) := fun v => (hBa.far (p := ⟨X.pb, 1, none⟩) (by show w1.heap.size ≠ X.pb; omega) v).cell 1 rfl)
          | (go_at_call 142; refine (Contains_any AL cL (opsOf lv) tx _ (l1.fr0 frx)).mono ?_; rw [HB.out]; rintro e wb ⟨rfl, nn, rfl⟩))
      all_goals go_wp2_with fail
      all_goals go_ret2
      all_goals exact ⟨rfl, (Fr.setCell (S := [X.pb]) ((hf1.trans (Fr.trans hW1 hFa)).mono (by simp)) (p := ⟨X.pb, 1, none⟩) (.inl (by simp)) _).drewN _, (PAt.set aA (by omega)).fr0 ((Fr.refl _ _).drewN _)⟩
  · have hq : (kd != 3) = true := by simpa using hk
    have hN : R = none := by rw [HW.out]; simp [hk]
    subst hN
    clear HW hk
    go_enter Tryz.func255, Tryz.ntmps255
    go_wp2_with fail
    refine HP.out.mono ?_
    rintro en w1 ⟨rfl, hf1⟩
    obtain ⟨W, hW⟩ : ∃ W, W = w1.alloc (.cells #[.int .u8 kd, .string tx, .int .i64 pt] 183) := ⟨_, rfl⟩
    have hW1 : Fr [] w1 W := by rw [hW]; exact frx
    have hBk : Blk W w1.heap.size 183 #[.int .u8 kd, .string tx, .int .i64 pt] := by rw [hW]; exact Blk.new _ _ _ _ rfl
    have a1 := (h.fr0 hf1).fr0 hW1
    have k0 := hBk.cell 0 rfl
    have k1 := hBk.cell 1 rfl
    have HV := Lib.hid hW.symm
    clear hW
    go_wp2_with fail
    rw [HV.out]
    go_quiet (fail)
    go_wp2_with fail
    go_ret2
    exact ⟨rfl, (hf1.trans (Fr.trans hW1 frx)).mono (by simp), a1.fr0 frx⟩
end
end

end Go.Proofs.YtchldahkcpbgcaaGreatDoor
