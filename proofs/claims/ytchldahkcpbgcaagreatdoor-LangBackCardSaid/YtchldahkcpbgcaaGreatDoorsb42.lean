/- Texts of this seat, one behind the other: ScF. -/
import Derived.Test.YtchldahkcpbgcaaGreatDoorsb41
import Derived.Test.YtchldahkcpbgcaaGreatDoorsb22
import Derived.Laws.EntriesVeiled
namespace Go.Proofs.YtchldahkcpbgcaaGreatDoor
set_option linter.unusedVariables false

/- A function's scope; Check. -/
section
open Go.RowKit
set_option linter.unusedSimpArgs false
set_option maxHeartbeats 3200000 in
set_option maxRecDepth 20000 in
theorem function_any {B b mb : Nat} {stv : Value} {st : Option Int} {c : Sc} {am : List (ByteArray × Int)} {n : Nat} (f : Fu) (fb o : Nat) (Ap : Option Addr) (cp : Nat) (Ab : Option Addr) (cb : Nat) {w : World} (n1 : w.cell? ⟨fb, o + 1, none⟩ = some (.slice Ap f.params.length cp)) (n2 : w.cell? ⟨fb, o + 2, none⟩ = some (.slice Ab f.body.length cb))
  (hP : RdS (upB B) w .string Ap cp f.params) (hL : LN (upB B) n w Ab cb f.body) (hfb : fb < B) (hS : SWx B b mb stv st c w) (hm : ArAt w mb am) (hmb : mb < B) (hcnt : c.cnt + cntL f.body ≤ 1000000000) :
  Calls Tryz.prog 118 #[.pointer (some ⟨b, 0, none⟩), .pointer (some ⟨fb, o, none⟩)] w (ScP B b mb stv st (scL (lkB am) st f.body (c.decls f.params)) w) := by
 have hl1 := hP.1.bound
 go_enter Tryz.func118, Tryz.ntmps118
 go_wp2
 go_loopw [11] (fun i wr => ∃ j : Nat, j ≤ f.params.length ∧ i = .int .i64 j ∧ ∃ c' : Sc, Hid (c'.decls (f.params.drop j) = c.decls f.params) ∧ SWx B b mb stv st c' wr ∧ Below B w wr ∧ c'.cnt = c.cnt) (fun i _ => f.params.length - (intOf i).toNat)
 case atStart => exact ⟨0, Nat.zero_le _, rfl, _, rfl, hS, Below.refl _ _, rfl⟩
 case round =>
  obtain ⟨j, hj, rfl, c', HE, hS', hf, hc'⟩ := hrel
  by_cases hlt2 : j < f.params.length
  ·obtain ⟨b1, o1, nm, rfl, hx, hcell⟩ := (hP.below hf).1.at_ hlt2
   have hE2 : f.params.drop j = nm :: f.params.drop (j + 1) := drop_at hx
   rw [hE2] at HE
   have HE2 : Hid ((c'.declares nm).decls (f.params.drop (j + 1)) = c.decls f.params) := HE
   clear HE hE2
   go_wp2_with fail
   refine (hS'.declares nm).mono ?_
   rintro e w2 ⟨rfl, hS2, hb3⟩
   go_wp2
   go_roundw
   case rel => exact ⟨j + 1, by omega, by go_num, _, HE2, hS2, hf.trans hb3, by rw [Sc.declares_cnt]; exact hc'⟩
   case measure => simp [intOf]; omega
  ·have hE2 : f.params.drop j = [] := List.drop_eq_nil_of_le (by omega)
   rw [hE2] at HE
   have HE2 : Hid (c' = c.decls f.params) := HE
   have n2 : wr.cell? ⟨fb, o + 2, none⟩ = some (.slice Ab f.body.length cb) := by rw [hf.cell hfb]; exact n2
   clear HE hE2 n1
   go_wp2_with fail
   refine ((sc_all n).2 B b mb stv st c' am _ _ f.body _ (hL.below hf) hS' (hm.below hf hmb) hmb (by omega)).mono ?_
   rintro e w2 ⟨rfl, hS2, hb2⟩
   go_wp2
   go_end0
   exact ⟨rfl, by rw [← HE2.out]; exact hS2, hf.trans hb2⟩
theorem scW_start {w : World} {mb : Nat} {stv : Value} (k : Nat) (H : Nat) (hH : H = w.heap.size) : ScW H mb stv (Sc.start k) (w.alloc (.cells #[.map (some mb), .slice none 0 0, .slice none 0 0, .slice none 0 0, .bool false, .int .i64 0, stv, .bool false] 161)) :=
 ⟨none, 0, none, 0, none, 0, Blk.new _ _ _ _ hH, World.ownsRow_nil _ _ _ _, World.ownsRow_nil _ _ _ _, World.ownsRow_nil _ _ _ _, Apt.none_ _, Apt.none_ _, Apt.none_ _, Nat.zero_le _, Nat.zero_le _, Nat.zero_le _⟩
theorem faultF_go {ar : ByteArray → Option Int} {f : Fu} {l : List Fu} (h : (scF ar none f 0).fault = 0) : faultF ar (f :: l) = faultF ar l := by rw [faultF, if_pos h]
theorem faultF_at {ar : ByteArray → Option Int} {f : Fu} {l : List Fu} (h : ¬ (scF ar none f 0).fault = 0) : faultF ar (f :: l) = (scF ar none f 0).fault := by rw [faultF, if_neg h]
theorem check_shape {fs : List Fu} (h : shapeP fs ≠ 0) : checkP fs = shapeP fs := by unfold checkP; rw [if_pos h]
theorem check_twice {fs : List Fu} (h : shapeP fs = 0) (h1 : twiceB [] fs = true) : checkP fs = 6 := by unfold checkP; rw [if_neg (by simp [h]), if_pos h1]
theorem check_none {fs : List Fu} (h : shapeP fs = 0) (h1 : twiceB [] fs = false) (h2 : arO fs mainN = none) : checkP fs = 5 := by unfold checkP; rw [if_neg (by simp [h]), if_neg (by simp [h1]), h2]
theorem check_many {fs : List Fu} {z : Int} (h : shapeP fs = 0) (h1 : twiceB [] fs = false) (h2 : arO fs mainN = some z) (h3 : 0 < z) : checkP fs = 1 := by unfold checkP; rw [if_neg (by simp [h]), if_neg (by simp [h1]), h2]; simp only; rw [if_pos h3]
theorem check_go {fs : List Fu} {z : Int} (h : shapeP fs = 0) (h1 : twiceB [] fs = false) (h2 : arO fs mainN = some z) (h3 : ¬ 0 < z) : checkP fs = faultF (arO fs) fs := by unfold checkP; rw [if_neg (by simp [h]), if_neg (by simp [h1]), h2]; simp only; rw [if_neg h3]
theorem cntL_of {fs : List Fu} {f : Fu} (h : f ∈ fs) : cntL f.body ≤ cntF fs := by
 unfold cntF
 obtain ⟨a, b, rfl⟩ := List.append_of_mem h
 simp
 omega
set_option maxHeartbeats 3200000 in
set_option maxRecDepth 20000 in
theorem Check_any (A : Option Addr) (c : Nat) (fs : List Fu) (S : Nat → Prop) (n : Nat) (w : World) (h : RF S n w A c fs) (hb : cntF fs ≤ 1000000000) (ht : TxF fs) :
    Calls Tryz.prog 47 #[.agg #[.slice A fs.length c]] w (RetV w (.int .i64 (checkP fs))) := by
  have hl1 := h.bound
  obtain ⟨W, hW⟩ : ∃ W, W = w.alloc (.cells #[.slice A fs.length c] 25) := ⟨_, rfl⟩
  have hf0 : Fr [] w W := by rw [hW]; exact frx
  have hB : Blk W w.heap.size 25 #[.slice A fs.length c] := by rw [hW]; exact Blk.new _ _ _ _ rfl
  have q0 : W.cell? ⟨w.heap.size, 0, none⟩ = some (.slice A fs.length c) := hB.cell 0 rfl
  have HW := Lib.hid hW.symm
  clear hW
  obtain ⟨r, hr⟩ : ∃ r, checkP fs = r := ⟨_, rfl⟩
  rw [hr]
  have HR := Lib.hid hr
  clear hr
  have HSH := Lib.hid (Shape_any A c fs S n W (h.fr0 hf0) hb ht)
  obtain ⟨sh, hsh⟩ : ∃ z, shapeP fs = z := ⟨_, rfl⟩
  rw [hsh] at HSH
  have HP := Lib.hid hsh
  clear hsh ht
  go_enter Tryz.func47, Tryz.ntmps47
  go_upto_region 1 with fail
  rw [HW.out]
  go_wp2_with fail
  refine HSH.out.mono ?_
  rintro e w1 ⟨rfl, hf1⟩
  by_cases hz : sh = 0
  rotate_left 1
  · have HX := Lib.hid ((check_shape (by rw [HP.out]; exact hz)).symm.trans HR.out)
    rw [HP.out] at HX
    have ez : (sh != 0) = true := by simpa using hz
    clear hz q0
    go_wp2
    go_ret
    exact ⟨ret_int HX.out, hf0.trans hf1⟩
  subst hz
  have q1 := hf1.cell q0 (by simp)
  have hw1 := hf0.trans hf1
  go_wp2_with fail
  refine (arities_any w.heap.size (h.fr0 hw1) q1).mono ?_
  rintro e w2 ⟨hf2, hAR⟩
  obtain ⟨tw, htw⟩ : ∃ z, twiceB [] fs = z := ⟨_, rfl⟩
  have HT := Lib.hid htw
  rw [htw] at hAR
  clear htw
  have hw2 := hw1.trans hf2
  cases tw with
  | true =>
    rw [if_pos rfl] at hAR
    subst hAR
    have HX := Lib.hid ((check_twice HP.out HT.out).symm.trans HR.out)
    clear q1 q0
    go_wp2
    go_ret
    exact ⟨ret_int HX.out, hw2⟩
  | false =>
    rw [if_neg (by simp)] at hAR
    obtain ⟨mb, rfl, hmb, hA⟩ := hAR
    have zr : ∀ W : World, (zeroValue 3).run Tryz.prog W = .ok (.int .i64 0) W := fun W => by rfl
    have hl := run_lookup_at keySt Tryz.underlying155 (0 : Int) (zr w2) hA mainN
    obtain ⟨ro, hro⟩ : ∃ ro, arO fs mainN = ro := ⟨_, rfl⟩
    rw [show @List.lookup ByteArray Int instBEqOfDecidableEq mainN (arL fs) = arO fs mainN from rfl, hro] at hl
    have HM := Lib.hid hro
    have hmn : mainN = ⟨#[109, 97, 105, 110]⟩ := rfl
    rw [hmn] at hl
    clear hro zr hmn
    have q2 := hf2.cell q1 (by simp)
    cases ro with
    | none =>
      have HX := Lib.hid ((check_none HP.out HT.out HM.out).symm.trans HR.out)
      clear q2 q1 q0
      go_wp2
      go_ret
      exact ⟨ret_int HX.out, hw2⟩
    | some z =>
      have hz : (some z).getD 0 = z := rfl
      rw [hz] at hl
      by_cases hz0 : 0 < z
      · have HX := Lib.hid ((check_many HP.out HT.out HM.out hz0).symm.trans HR.out)
        clear q2 q1 q0
        go_wp2
        go_ret
        exact ⟨ret_int HX.out, hw2⟩
      · have HX := Lib.hid ((check_go HP.out HT.out HM.out hz0).symm.trans HR.out)
        clear HP HT HM q1 q0
        go_wp2
        go_loopw [34] (fun i wr => ∃ k : Nat, k ≤ fs.length ∧ i = .int .i64 k ∧ Hid (faultF (arO fs) (fs.drop k) = r) ∧ Fr [] w2 wr) (fun i _ => fs.length - (intOf i).toNat)
        case atStart => exact ⟨0, Nat.zero_le _, rfl, HX, Fr.refl _ _⟩
        case round =>
          obtain ⟨k, hk, rfl, HE, hf⟩ := hrel
          have q3 := hf.cell q2 (by simp)
          by_cases hlt : k < fs.length
          · obtain ⟨b, off, f, Ap, cp, Ab, cb, rfl, hx, n0, n1, n2, hP, hL, hSb⟩ := (h.fr0 (hw2.trans hf)).at_ hlt
            have hd : fs.drop k = f :: fs.drop (k + 1) := drop_at hx
            have hcn := cntL_of (List.mem_of_getElem? hx.out)
            have hbl := Lib.lt_of_cell n0
            dsimp only at hbl
            have hA3 := hA.fr0 hf
            have hmb3 := hA3.lt
            have hwr := hw2.trans hf
            have hws := hwr.size
            have hlt0 : w.heap.size < wr.heap.size := Lib.lt_of_cell q3
            obtain ⟨H, hH⟩ : ∃ H, H = wr.heap.size := ⟨_, rfl⟩
            go_upto_region 16 with fail
            rw [← hH]
            refine wp_hide (fun M hM => ?_)
            have hfM : Fr [] wr M := by rw [hM]; exact frx
            have hSM : SWx H H mb .nilFunc none (Sc.start 0) M := ⟨Nat.le_refl _, by rw [hM]; exact scW_start 0 H hH, .inl ⟨rfl, rfl⟩⟩
            have q4 := hfM.cell q3 (by simp)
            have m1 := hfM.cell n1 (by simp)
            have m2 := hfM.cell n2 (by simp)
            have hHM := hSM.sc.lt
            have HF := Lib.hid (function_any (B := H) f b (off + k * 3) Ap cp Ab cb m1 m2 ((hP.sub fun j hj hu => absurd hu (by unfold upB; omega)).fr0 hfM) ((hL.sub fun j hj hu => absurd hu (by unfold upB; omega)).fr0 hfM) (by omega) hSM (hA3.fr0 hfM) (by omega) (by show 0 + _ ≤ _; omega))
            have HH := Lib.hid hH
            clear hM hSM m1 m2 n0 n1 n2 hP hL q3 hH
            go_wp2_with fail
            refine HF.out.mono ?_
            rintro e w5 ⟨rfl, hS5, hb5⟩
            rw [HH.out] at hb5
            have hf5 : Fr [] wr w5 := ⟨hb5.os.trans hfM.os, hb5.tape.trans hfM.tape, hb5.output.trans hfM.output, Nat.le_trans hfM.size hb5.size, fun k hk hn => (hb5.block k hk).trans (hfM.block k hk hn)⟩
            have q5 := hf5.cell (hf.cell q2 (by simp)) (by simp)
            obtain ⟨A3, d3, p0, p3, p4, p5, p6, p7, _, _, _, _⟩ := hS5.sc.cells
            rw [hd] at HE
            have hft : (scL (lkB (arL fs)) none f.body ((Sc.start 0).decls f.params)).fault = (scF (arO fs) none f 0).fault := rfl
            rw [hft] at p5
            by_cases hz5 : (scF (arO fs) none f 0).fault = 0
            · rw [faultF_go hz5] at HE
              rw [hz5] at p5
              clear hft hz5
              go_wp2
              go_roundw
              case rel => exact ⟨k + 1, by omega, by go_num, HE, hf.trans hf5⟩
              case measure => simp [intOf]; omega
            · rw [faultF_at hz5] at HE
              obtain ⟨z5, hz⟩ : ∃ z5, (scF (arO fs) none f 0).fault = z5 := ⟨_, rfl⟩
              rw [hz] at p5 hz5 HE
              have ez : (z5 != 0) = true := by simpa using hz5
              clear hft hz hz5
              go_wp2
              go_ret
              exact ⟨ret_int HE.out, hwr.trans hf5⟩
          · have hd : fs.drop k = [] := List.drop_eq_nil_of_le (by omega)
            rw [hd, faultF] at HE
            go_wp2
            go_ret
            exact ⟨ret_int HE.out, hw2.trans hf⟩
end

end Go.Proofs.YtchldahkcpbgcaaGreatDoor
