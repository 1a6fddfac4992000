/- Texts of this seat, one behind the other: PrtR, Liv, LStr, LSam. -/
import Derived.Test.YtchldahkcpbgcaaGreatDoorsk12
import Derived.Test.YtchldahkcpbgcaaGreatDoorsk31
import Derived.Test.YtchldahkcpbgcaaGreatDoorsk22
import Derived.Test.YtchldahkcpbgcaaGreatDoorsk30
import Derived.Test.YtchldahkcpbgcaaGreatDoorsk34
namespace Go.Proofs.YtchldahkcpbgcaaGreatDoor
set_option linter.unusedVariables false

/- Print (printed by gen/prtr.py). -/
section
open Go.RowKit
set_option linter.unusedSimpArgs false
theorem LN.cutTo {S : Nat → Prop} {w : World} : ∀ {n m : Nat} {A : Option Addr} {c : Nat} {l : List Nd}, LN S n w A c l → depL l < m → LN S m w A c l
  | 0, _, _, _, _, h, _ => absurd h id
  | n + 1, 0, _, _, _, _, hd => absurd hd (Nat.not_lt_zero _)
  | n + 1, m + 1, _, _, l, h, hd => by
    refine ⟨h.1, h.2.1, fun h0 => ?_⟩
    obtain ⟨b, off, hA, hb, hx⟩ := h.2.2 h0
    refine ⟨b, off, hA, hb, fun k x hk => ?_⟩
    obtain ⟨hd', h1, h2, h3, h4, h5, h6⟩ := hx k x hk
    have hm := depL_mem (List.mem_of_getElem? hk)
    have he := x.dep_eq
    exact ⟨hd', h1, h2, h3.cutTo (by omega), h4, h5.cutTo (by omega), h6.cutTo (by omega)⟩
theorem depF_mem {fs : List Fu} {f : Fu} (h : f ∈ fs) : depL f.body ≤ depF fs := by
  obtain ⟨k, hk, rfl⟩ := List.getElem_of_mem h
  have h1 : ∀ j, j ≤ fs.length → ∀ i, i < j → ∀ h : i < fs.length, depL fs[i].body ≤ depF (fs.take j) := by
    intro j
    induction j with
    | zero => intro _ i hi; exact absurd hi (Nat.not_lt_zero _)
    | succ j ih =>
      intro hj i hi h
      rw [depF_take (f := fs[j]) (Lib.hid (List.getElem?_eq_getElem (by omega)))]
      rcases Nat.lt_or_ge i j with h2 | h2
      · have := ih (by omega) i h2 h
        omega
      · obtain rfl : i = j := by omega
        omega
  have := h1 fs.length (Nat.le_refl _) k hk hk
  rwa [List.take_length] at this
theorem RF.cutTo {S : Nat → Prop} {n m : Nat} {w : World} {A : Option Addr} {c : Nat} {fs : List Fu} (h : RF S n w A c fs) (hd : depF fs < m) : RF S m w A c fs :=
 ⟨h.le, h.cap, fun h0 => by
  obtain ⟨b, off, hA, hb, hx⟩ := h.at0 h0
  refine ⟨b, off, hA, hb, fun k f hk => ?_⟩
  obtain ⟨Ap, cp, Ab, cb, h1, h2, h3, h4, h5⟩ := hx k f hk
  have := depF_mem (List.mem_of_getElem? hk)
  exact ⟨Ap, cp, Ab, cb, h1, h2, h3, h4, h5.cutTo (by omega)⟩⟩
theorem RF.below {b n : Nat} {w w' : World} {A : Option Addr} {c : Nat} {fs : List Fu} (h : RF (upB b) n w A c fs) (hb : Below b w w') : RF (upB b) n w' A c fs :=
 h.imp (Nat.le_refl _) (fun _ _ h => h) fun p u hp h1 => by rw [hb.cell (Nat.lt_of_not_le hp)]; exact h1
def smF (fs : List Fu) : Prop := ∀ f ∈ fs, smL f.body
theorem RF.sm {S : Nat → Prop} {n : Nat} {w : World} {A : Option Addr} {c : Nat} {fs : List Fu} (h : RF S n w A c fs) : smF fs := by
 intro f hf
 obtain ⟨k, hk, rfl⟩ := List.getElem_of_mem hf
 obtain ⟨b, off, _, _, hx⟩ := h.at0 (by omega)
 obtain ⟨Ap, cp, Ab, cb, h1, h2, h3, h4, h5⟩ := hx k _ (List.getElem?_eq_getElem hk)
 exact h5.sm
theorem stmtsP_all (n : Nat) : StmtsP n := by
 cases n with
 | zero => intro b bs A c l lv inFn w hl; exact absurd hl id
 | succ n => exact statements_stepP n (prints n).2
theorem shape_of {fs : List Fu} (h : shapeP fs = 0) : fs.length ≤ 16 ∧ cntF fs ≤ 1024 ∧ depF fs ≤ 24 ∧ ∀ f ∈ fs, nameOk f.name = true ∧ paramsB f.params = true ∧ lsB false false f.body = true := by
 unfold shapeP at h
 split at h
 ·cases h
 ·split at h
  ·cases h
  ·rename_i h1 h2
   split at h
   ·rename_i h3
    refine ⟨by omega, by omega, by omega, fun f hf => ?_⟩
    have := List.all_eq_true.1 h3 f hf
    simp only [fuB, Bool.and_eq_true] at this
    exact ⟨this.1.1, this.1.2, this.2⟩
   ·cases h
abbrev hdrB (f : Fu) : Bs := [102, 117, 110, 32] ++ sb f.name ++ [40] ++ joinB f.params ++ [41]
theorem fuT_len {f : Fu} (h1 : nameOk f.name = true) (h2 : paramsB f.params = true) (h3 : lsB false false f.body = true) (hs : smL f.body) (hd : depL f.body ≤ 24) : (fuT f).length ≤ 200 + cntL f.body * 650 := by
 have h4 := nameOk_len h1
 rw [← sb_len] at h4
 simp only [paramsB, Bool.and_eq_true, decide_eq_true_eq, List.all_eq_true] at h2
 have h5 := joinB_len h2.1 fun p hp => nameOk_len (h2.2 p hp)
 have h6 := lines_len 25 f.body false 1 h3 hs (by omega)
 unfold fuT blockB
 simp only [List.length_append, List.length_cons, List.length_nil, Nat.zero_add, show indB 0 = [] from rfl]
 omega
theorem progB_len : ∀ {fs : List Fu}, (∀ f ∈ fs, nameOk f.name = true ∧ paramsB f.params = true ∧ lsB false false f.body = true ∧ depL f.body ≤ 24) → smF fs → (progB fs).length ≤ fs.length * 200 + cntF fs * 650
  | [], _, _ => by simp [progB]
  | f :: fs, h, hs => by
    have h1 := progB_len (fs := fs) (fun g hg => h g (List.mem_cons_of_mem _ hg)) (fun g hg => hs g (List.mem_cons_of_mem _ hg))
    obtain ⟨a, b, c, d⟩ := h f (by simp)
    have h2 := fuT_len a b c (hs f (by simp)) d
    have e : progB (f :: fs) = fuT f ++ progB fs := by simp [progB]
    have e2 : cntF (f :: fs) = cntL f.body + cntF fs := by simp [cntF]
    rw [e, e2, List.length_append, List.length_cons, Nat.add_mul, Nat.add_mul]
    omega
theorem progB_take {fs : List Fu} {k : Nat} {f : Fu} (h : Hid (fs[k]? = some f)) : progB (fs.take (k + 1)) = progB (fs.take k) ++ fuT f := by
 unfold progB
 rw [take_at h, List.map_append, List.flatten_append]
 simp
theorem progB_take_le (fs : List Fu) (k : Nat) : (progB (fs.take k)).length ≤ (progB fs).length := by
 unfold progB
 conv => rhs; rw [← List.take_append_drop k fs, List.map_append, List.flatten_append]
 simp only [List.length_append]
 omega
theorem fuT_eq (f : Fu) : fuT f = hdrB f ++ blockB 0 (linesB f.body 1) [125, 10] := rfl
theorem tabH_of {w w' : World} (h : Lib.TabIs Tryz.prog w "internal/strconv.uint64pow10" .u64 Lib.pow10Tab) (hf : Fr [] w w') {b : Nat} (hb : w.heap.size ≤ b) : TabH b w' := by
 have h0 := h
 unfold Lib.TabIs World.var? at h0
 have hg : ∀ g, Tryz.prog.globalNamed "internal/strconv.uint64pow10" = some g → g < w.heap.size := by
  intro g hg
  rw [hg] at h0
  rcases Nat.lt_or_ge g w.heap.size with h1 | h1
  ·exact h1
  ·simp only [Option.bind_some, Array.getElem?_eq_none h1] at h0
   cases h0
 exact TabH.block (b := b) (w := w') ⟨Lib.tabBelow_of_tabIs h _ hf.below, fun g h1 => by have := hg g h1; omega⟩ (fun _ _ => rfl)
set_option maxRecDepth 20000 in
set_option maxHeartbeats 3200000 in
theorem Print_any (A : Option Addr) (c : Nat) (fs : List Fu) (S : Nat → Prop) (n : Nat) (w : World) (h : RF S n w A c fs) (hb : cntF fs ≤ 1000000000) (ht : TxF fs) (htab : Lib.TabIs Tryz.prog w "internal/strconv.uint64pow10" .u64 Lib.pow10Tab) :
  Calls Tryz.prog 26 #[.agg #[.slice A fs.length c]] w (RetV w (.tuple #[.string (printO fs).1, .int .i64 (printO fs).2])) := by
 obtain ⟨W, hW⟩ : ∃ W, W = w.alloc (.cells #[.slice A fs.length c] 25) := ⟨_, rfl⟩
 have hf0 : Fr [] w W := by rw [hW]; exact (Fr.refl _ _).alloc _
 have hB : Blk W w.heap.size 25 #[.slice A fs.length c] := by rw [hW]; exact Blk.new _ _ _ _ rfl
 have q0 : W.cell? ⟨w.heap.size, 0, none⟩ = some (.slice A fs.length c) := hB.cell 0 rfl
 have HW := Lib.hid hW.symm
 have HSH := Lib.hid (Shape_any A c fs S n W (h.fr0 hf0) hb ht)
 have hwW := hB.lt
 clear hW
 by_cases hsp : shapeP fs = 0
 rotate_left 1
 ·have HR : Hid (printO fs = (bt [], shapeP fs)) := Lib.hid (by unfold printO; rw [if_pos hsp])
  generalize shapeP fs = sp at *
  go_enter Tryz.func26, Tryz.ntmps26
  go_upto_region 1 with fail
  rw [HW.out]
  go_wp2_with fail
  refine HSH.out.mono ?_
  rintro e w1 ⟨rfl, hf1⟩
  go_wp2
  go_ret2
  rw [HR.out]
  exact ⟨rfl, hf0.trans hf1⟩
 obtain ⟨hs1, hs2, hs3, hs4⟩ := shape_of hsp
 have hsm := h.sm
 have hL : (progB fs).length ≤ 1000000 := by
  have := progB_len (fs := fs) (fun f hf => ⟨(hs4 f hf).1, (hs4 f hf).2.1, (hs4 f hf).2.2, Nat.le_trans (depF_mem hf) hs3⟩) hsm
  omega
 rw [hsp] at HSH
 have HR : Hid (printO fs = if 65536 < (progB fs).length then (bt [], 3) else (bt (progB fs), 0)) := Lib.hid (by unfold printO; rw [if_neg (by rw [hsp]; decide)])
 have HTB := Lib.hid htab
 have h25 := h.cutTo (m := 25) (by omega)
 have hsz := h.bound
 clear hsm hsp h htab
 go_enter Tryz.func26, Tryz.ntmps26
 go_upto_region 1 with fail
 rw [HW.out]
 go_wp2_with fail
 refine HSH.out.mono ?_
 rintro e w1 ⟨rfl, hf1⟩
 clear HSH
 have hg1 := hf0.trans hf1
 obtain ⟨V, hV⟩ : ∃ V, V = w1.alloc (.cells #[.pointer none, .slice none 0 0] 110) := ⟨_, rfl⟩
 have hfV : Fr [] w V := by rw [hV]; exact hg1.alloc _
 have hsV := hg1.size
 have hz1 := hf1.size
 have hlt1 : w.heap.size < w1.heap.size := Nat.lt_of_lt_of_le hwW hz1
 have hBV : Blk V w.heap.size 25 #[.slice A fs.length c] := by rw [hV]; exact (hB.fr hf1 (by simp)).alloc _
 obtain ⟨b, hbb⟩ : ∃ b, b = w1.heap.size := ⟨_, rfl⟩
 have hp : PrW b [] V := ⟨by rw [hV, hbb]; have := Lib.IsBuilderF.of (Lib.fresh_isBuilder 110 5 w1); simpa [Lib.byteCells] using this, tabH_of HTB.out hfV (by omega)⟩
 have hRF : RF (upB b) 25 V A c fs := h25.imp (Nat.le_refl _) (fun k hk _ hb2 => by show False; have : b ≤ k := hb2; omega) (fun p u hp2 h1 => hfV.cell h1 (by simp))
 have hq0 : V.cell? ⟨w.heap.size, 0, none⟩ = some (.slice A fs.length c) := hBV.cell 0 rfl
 have hfin : ∀ w', Below b V w' → Fr [] w w' := fun w' hb2 => Fr.of_below ⟨hb2.os.trans hfV.os, hb2.tape.trans hfV.tape, hb2.output.trans hfV.output, Nat.le_trans hfV.size hb2.size, fun k hk => (hb2.block k (by omega)).trans (hfV.block k hk (by simp))⟩
 have HFin := Lib.hid hfin
 clear hfin
 have hbp : w.heap.size < b := by omega
 have HV : Hid (w1.alloc (.cells #[.pointer none, .slice none 0 0] 110) = V) := Lib.hid hV.symm
 have HBB := Lib.hid hbb.symm
 clear hV hbb hfV h25 hB hBV hg1 hf1 hf0 HTB
 go_upto_region 5 with fail
 rw [HV.out, HBB.out]
 go_wp2
 go_loopw [16] (fun i wr => ∃ k : Nat, k ≤ fs.length ∧ i = .int .i64 k ∧ PrW b (progB (fs.take k)) wr ∧ Below b V wr) (fun i _ => fs.length - (intOf i).toNat)
 case atStart => exact ⟨0, Nat.zero_le _, rfl, hp, Below.refl _ _⟩
 case round =>
  obtain ⟨k, hk, rfl, hq, hf⟩ := hrel
  have q0 : wr.cell? ⟨w.heap.size, 0, none⟩ = some (.slice A fs.length c) := by rw [hf.cell hbp]; exact hq0
  by_cases hlt : k < fs.length
  ·obtain ⟨kb, off, f, Ap, cp, Ab, cb, rfl, hx, hn0, hn1, hn2, hpr, hbd, hkb⟩ := (hRF.below hf).at_ hlt
   have hkb : kb < b := Nat.lt_of_not_le hkb
   have hfm := hs4 f (List.mem_of_getElem? hx.out)
   have hT := progB_take hx
   have hTL := progB_take_le fs (k + 1)
   rw [hT, fuT_eq] at hTL
   have hnm := nameOk_len hfm.1
   simp only [List.length_append, List.length_cons, List.length_nil] at hTL
   have hlB := hbd.len
   have HT := Lib.hid hT
   clear hT
   have hz1 : 4 + f.name.size ≤ 9223372036854775807 := by omega
   have hz2 : 4 + f.name.size + 1 ≤ 9223372036854775807 := by omega
   go_wp2_with fail
   refine wp_region_held_drew (S := fun w' => Below b wr w') (by kernel_rfl) ((Below.refl _ _).drew) (fun hHeld => ?_)
   refine wpAnyH_take (i := 0) (v := ?_) rfl (by kernel_rfl) (by kernel_rfl) (by kernel_rfl) (fun _ _ _ h => h) (Or.inl ⟨by rfl, fun w hSw => ?_⟩) (by assumption) ?_
   rotate_left 1
   ·(try dsimp only at hSw); go_simp; try with_reducible rfl
   try simp only [Act.put, List.setIfInBounds_toArray, List.set_cons_zero, List.set_cons_succ]
   refine wpAnyH_take (i := 1) (v := ?_) rfl (by kernel_rfl) (by kernel_rfl) (by kernel_rfl) (fun _ _ _ h => h) (Or.inl ⟨by rfl, fun w hSw => ?_⟩) (by assumption) ?_
   rotate_left 1
   ·(try dsimp only at hSw); go_simp; try with_reducible rfl
   try simp only [Act.put, List.setIfInBounds_toArray, List.set_cons_zero, List.set_cons_succ]
   refine wpAnyH_take (i := 2) (v := ?_) rfl (by kernel_rfl) (by kernel_rfl) (by kernel_rfl) (fun _ _ _ h => h) (Or.inl ⟨by rfl, fun w hSw => ?_⟩) (by assumption) ?_
   rotate_left 1
   ·(try dsimp only at hSw); go_simp; try with_reducible rfl
   try simp only [Act.put, List.setIfInBounds_toArray, List.set_cons_zero, List.set_cons_succ]
   refine wpAnyH_take (i := 3) (v := ?_) rfl (by kernel_rfl) (by kernel_rfl) (by kernel_rfl) (fun _ _ _ h => h) (Or.inl ⟨by rfl, fun w hSw => ?_⟩) (by assumption) ?_
   rotate_left 1
   ·(try dsimp only at hSw); go_simp; try with_reducible rfl
   try simp only [Act.put, List.setIfInBounds_toArray, List.set_cons_zero, List.set_cons_succ]
   refine wpAnyH_take (i := 4) (v := ?_) rfl (by kernel_rfl) (by kernel_rfl) (by kernel_rfl) (fun _ _ _ h => h) (Or.inl ⟨by rfl, fun w hSw => ?_⟩) (by assumption) ?_
   rotate_left 1
   ·(try dsimp only at hSw)
    have m0 := (hSw.cell (p := ⟨kb, off + k * 3, none⟩) hkb).trans hn0
    go_simp
    try with_reducible rfl
   try simp only [Act.put, List.setIfInBounds_toArray, List.set_cons_zero, List.set_cons_succ]
   refine wpAnyH_take (i := 5) (v := .string (⟨#[102, 117, 110, 32]⟩ ++ f.name)) rfl (by kernel_rfl) (by kernel_rfl) (by kernel_rfl) (fun _ _ _ h => h) (Or.inl ⟨by rfl, fun w hSw => ?_⟩) (by assumption) ?_
   ·(try dsimp only at hSw)
    go_simp
    first | done | rw [if_neg (by omega)]
   try simp only [Act.put, List.setIfInBounds_toArray, List.set_cons_zero, List.set_cons_succ]
   refine wpAnyH_take (i := 6) (v := .string (⟨#[102, 117, 110, 32]⟩ ++ f.name ++ ⟨#[40]⟩)) rfl (by kernel_rfl) (by kernel_rfl) (by kernel_rfl) (fun _ _ _ h => h) (Or.inl ⟨by rfl, fun w hSw => ?_⟩) (by assumption) ?_
   ·(try dsimp only at hSw)
    go_simp
    first | done | rw [if_neg (by omega)]
   try simp only [Act.put, List.setIfInBounds_toArray, List.set_cons_zero, List.set_cons_succ]
   refine wpAnyH_take (i := 7) (v := ?_) rfl (by kernel_rfl) (by kernel_rfl) (by kernel_rfl) (fun _ _ _ h => h) (Or.inl ⟨by rfl, fun w hSw => ?_⟩) (by assumption) ?_
   rotate_left 1
   ·(try dsimp only at hSw); go_simp; try with_reducible rfl
   try simp only [Act.put, List.setIfInBounds_toArray, List.set_cons_zero, List.set_cons_succ]
   refine wpAnyH_take (i := 8) (v := ?_) rfl (by kernel_rfl) (by kernel_rfl) (by kernel_rfl) (fun _ _ _ h => h) (Or.inl ⟨by rfl, fun w hSw => ?_⟩) (by assumption) ?_
   rotate_left 1
   ·(try dsimp only at hSw); go_simp; try with_reducible rfl
   try simp only [Act.put, List.setIfInBounds_toArray, List.set_cons_zero, List.set_cons_succ]
   refine wpAnyH_take (i := 9) (v := ?_) rfl (by kernel_rfl) (by kernel_rfl) (by kernel_rfl) (fun _ _ _ h => h) (Or.inl ⟨by rfl, fun w hSw => ?_⟩) (by assumption) ?_
   rotate_left 1
   ·(try dsimp only at hSw); go_simp; try with_reducible rfl
   try simp only [Act.put, List.setIfInBounds_toArray, List.set_cons_zero, List.set_cons_succ]
   refine wpAnyH_take (i := 10) (v := ?_) rfl (by kernel_rfl) (by kernel_rfl) (by kernel_rfl) (fun _ _ _ h => h) (Or.inl ⟨by rfl, fun w hSw => ?_⟩) (by assumption) ?_
   rotate_left 1
   ·(try dsimp only at hSw)
    have m1 := (hSw.cell (p := ⟨kb, off + k * 3 + 1, none⟩) hkb).trans hn1
    go_simp
    try with_reducible rfl
   try simp only [Act.put, List.setIfInBounds_toArray, List.set_cons_zero, List.set_cons_succ]
   refine wpAnyH_ready (rs := [11]) (by kernel_rfl) (by simp) ?_
   refine AllReadyH.cons rfl (fun K hK => ?_) AllReadyH.nil
   go_simp
   have hdr := (Below.refl b wr).drew
   refine (join_ps (hpr.below hdr) (by omega)).mono ?_
   rintro e w3 ⟨s, rfl, hs, hup⟩
   have hp3 : PrW b (progB (fs.take k)) w3 := PrW.up (w := wr.drew) hq hup
   have hf3 : Below b wr w3 := hdr.trans (hup.mono (Nat.le_of_lt hq.lt))
   have hsz : s.size ≤ 1000000000 := by rw [← sb_len, hs]; omega
   have hz3 : 4 + f.name.size + 1 + s.size ≤ 9223372036854775807 := by omega
   have hz4 : 4 + f.name.size + 1 + s.size + 1 ≤ 9223372036854775807 := by omega
   have HS : Hid (sb (⟨#[102, 117, 110, 32]⟩ ++ f.name ++ ⟨#[40]⟩ ++ s ++ ⟨#[41]⟩) = hdrB f) := Lib.hid (by rw [sb_app, sb_app, sb_app, sb_app, hs]; rfl)
   clear hs
   refine hK.out _ _ (hf3) (fun hHeld2 => ?_)
   clear hK K hHeld
   have hHeld := hHeld2
   clear hHeld2
   try simp only [Act.put, List.setIfInBounds_toArray, List.set_cons_zero, List.set_cons_succ]
   refine wpAnyH_take (i := 12) (v := .string (⟨#[102, 117, 110, 32]⟩ ++ f.name ++ ⟨#[40]⟩ ++ s)) rfl (by kernel_rfl) (by kernel_rfl) (by kernel_rfl) (fun _ _ _ h => h) (Or.inl ⟨by rfl, fun w hSw => ?_⟩) (by assumption) ?_
   ·(try dsimp only at hSw)
    go_simp
    first | done | rw [if_neg (by omega)]
   try simp only [Act.put, List.setIfInBounds_toArray, List.set_cons_zero, List.set_cons_succ]
   refine wpAnyH_take (i := 13) (v := .string (⟨#[102, 117, 110, 32]⟩ ++ f.name ++ ⟨#[40]⟩ ++ s ++ ⟨#[41]⟩)) rfl (by kernel_rfl) (by kernel_rfl) (by kernel_rfl) (fun _ _ _ h => h) (Or.inl ⟨by rfl, fun w hSw => ?_⟩) (by assumption) ?_
   ·(try dsimp only at hSw)
    go_simp
    first | done | rw [if_neg (by omega)]
   try simp only [Act.put, List.setIfInBounds_toArray, List.set_cons_zero, List.set_cons_succ]
   refine wpAnyH_ready (rs := [14]) (by kernel_rfl) (by simp) ?_
   refine AllReadyH.cons rfl (fun K hK => ?_) AllReadyH.nil
   go_simp
   refine (pr_strE b _ (hdrB f) _ _ hp3 HS.out (by simp only [List.length_append, List.length_cons, List.length_nil]; omega)).mono ?_
   rintro e w4 ⟨m, rfl, hp4, hg4⟩
   have hf4 := hf3.trans hg4
   refine hK.out _ _ (hf4) (fun hHeld2 => ?_)
   clear hK K hHeld
   have hHeld := hHeld2
   clear hHeld2
   try simp only [Act.put, List.setIfInBounds_toArray, List.set_cons_zero, List.set_cons_succ]
   refine wpAnyH_done (by kernel_rfl) ?_ _
   have hn2 := (hf4.cell (p := ⟨kb, off + k * 3 + 2, none⟩) hkb).trans hn2
   have HB := Lib.hid (block_stepP 25 (stmtsP_all 25) b _ Ab cb f.body 0 ⟨#[125, 10]⟩ false _ (hbd.below hf4) hfm.2.2 hp4 (by show _ + (blockB 0 (linesB f.body 1) [125, 10]).length ≤ _; simp only [List.length_append, List.length_cons, List.length_nil]; omega) (by omega))
   go_wp2_with fail
   refine HB.out.mono ?_
   rintro e w5 ⟨rfl, hp5, hg5⟩
   go_wp2
   go_roundw
   case rel => exact ⟨k + 1, by omega, by go_num, by rw [HT.out, fuT_eq, ← List.append_assoc]; exact hp5, (hf.trans hf4).trans hg5⟩
   case measure => simp [intOf]; omega
  ·obtain rfl : k = fs.length := by omega
   rw [List.take_length] at hq
   go_wp2_with fail
   refine (pr_len b _ _ hq).mono ?_
   rintro e w2 ⟨rfl, rfl⟩
   by_cases h6 : 65536 < (progB fs).length
   ·rw [if_pos h6] at HR
    go_wp2_with fail
    go_ret2
    rw [HR.out]
    exact ⟨rfl, HFin.out _ hf⟩
   ·rw [if_neg h6] at HR
    go_wp2_with fail
    refine (pr_text b _ _ hq).mono ?_
    rintro e w3 ⟨rfl, hp3, hf3⟩
    go_wp2
    go_ret2
    rw [HR.out]
    exact ⟨rfl, HFin.out _ (hf.trans hf3)⟩
end

/- lives: the first example of the chapter comes out as it should. -/
section
open Go.RowKit
set_option linter.unusedSimpArgs false
theorem okB_ps {x : Nd} {inFn : Bool} (h : x.okB inFn = true) : ∀ p ∈ x.params, p.size ≤ 16 := by
  cases hr : ruleOf x.kind with
  | none => rw [Nd.okB_none hr] at h; cases h
  | some r =>
    rw [Nd.okB_some hr] at h
    simp only [ownB, Bool.and_eq_true, decide_eq_true_eq] at h
    have h1 := h.1.1.2.1
    have h2 := h.1.2
    cases hf : r.fn with
    | false =>
      rw [hf] at h1
      simp only [Bool.false_or, decide_eq_true_eq] at h1
      rw [List.eq_nil_of_length_eq_zero h1]
      intro p hp; cases hp
    | true =>
      rw [hf] at h2
      simp only [Bool.not_true, Bool.false_or, Bool.and_eq_true, paramsB, decide_eq_true_eq, List.all_eq_true] at h2
      exact fun p hp => nameOk_len (h2.2.2 p hp)
theorem okB_tx (x : Nd) : ∀ inFn : Bool, x.okB inFn = true → x.tx := by
  induction x using Nd.ind with
  | h x hs hb he =>
    intro inFn h
    have h1 := (okB_len h).1
    have h2 := okB_ps h
    cases hr : ruleOf x.kind with
    | none => rw [Nd.okB_none hr] at h; cases h
    | some r =>
      rw [Nd.okB_some hr] at h
      simp only [Bool.and_eq_true] at h
      refine (Nd.tx_iff x).2 ⟨⟨by omega, fun p hp => by have := h2 p hp; omega⟩, fun y hy => hs y hy _ (lsB_mem hy h.2.1).2, fun y hy => hb y hy _ (lsB_mem hy h.2.2.1).2, fun y hy => he y hy _ (lsB_mem hy h.2.2.2).2⟩
theorem txF_of_shape {fs : List Fu} (h : shapeP fs = 0) : TxF fs := by
 obtain ⟨_, _, _, h4⟩ := shape_of h
 intro f hf
 obtain ⟨h1, h2, h3⟩ := h4 f hf
 have h5 := nameOk_len h1
 simp only [paramsB, Bool.and_eq_true, decide_eq_true_eq, List.all_eq_true] at h2
 exact ⟨by omega, fun s hs => by have := nameOk_len (h2.2 s hs); omega, fun y hy => okB_tx y _ (lsB_mem hy h3).2⟩
theorem first_tx : TxF firstF := txF_of_shape first_shape
theorem first_cnt : cntF firstF ≤ 1000000000 := by decide +kernel
theorem first_printO : printO firstF = (firstT, 0) := by
 unfold printO
 rw [if_neg (by rw [first_shape]; decide), first_print, if_neg (by decide)]
 rfl
set_option maxRecDepth 20000 in
set_option maxHeartbeats 3200000 in
theorem lives_any (w : World) (ht : Tab w) (htab : Lib.TabIs Tryz.prog w "internal/strconv.uint64pow10" .u64 Lib.pow10Tab) : Calls Tryz.prog 16 #[] w (RetV w (.bool true)) := by
 have HP : Hid (Calls Tryz.prog 17 #[.string firstS] w (fun e w' => ∃ A c n, e = .returned (.tuple #[.agg #[.slice A 1 c], .int .i64 0, .int .i64 0]) ∧ RF (Bel w) n w' A c firstF ∧ Fr [] w w')) := Lib.hid (by
  have := Parse_any firstS w (by decide) ht
  rw [first_parse] at this
  exact this)
 have HTB := Lib.hid htab
 clear ht htab
 go_enter Tryz.func16, Tryz.ntmps16
 go_wp2_with fail
 refine HP.out.mono ?_
 rintro e w1 ⟨A, c, n, rfl, hR, hf1⟩
 have hR : RF (Bel w) n w1 A c firstF := hR
 obtain ⟨bk, off, f, Ap, cp, Ab, cb, rfl, hx, hn0, hn1, hn2, hpr, hbd, hkb⟩ := hR.at_ (k := 0) (by decide)
 have hfl : f.body.length = 3 := by
  have h := hx.out
  simp only [firstF, List.getElem?_cons_zero, Option.some.injEq] at h
  subst h
  rfl
 rw [hfl] at hn2
 clear hx hn0 hn1 hpr hbd
 obtain ⟨V, hV⟩ : ∃ V, V = w1.alloc (.cells #[.slice (some ⟨bk, off, none⟩) 1 c] 25) := ⟨_, rfl⟩
 have hfV : Fr [] w1 V := by rw [hV]; exact (Fr.refl [] w1).alloc _
 have hBV : Blk V w1.heap.size 25 #[.slice (some ⟨bk, off, none⟩) 1 c] := by rw [hV]; exact Blk.new _ _ _ _ rfl
 have hRV : RF (Bel w) n V (some ⟨bk, off, none⟩) c firstF := hR.fr0 hfV
 have q0 : V.cell? ⟨w1.heap.size, 0, none⟩ = some (.slice (some ⟨bk, off, none⟩) 1 c) := hBV.cell 0 rfl
 have hn2 : V.cell? ⟨bk, off + 2, none⟩ = some (.slice Ab 3 cb) := hfV.cell (by simpa using hn2) (by simp)
 have HV := Lib.hid hV.symm
 have HC : Hid (∀ W, Fr [] V W → Calls Tryz.prog 29 #[.agg #[.slice (some ⟨bk, off, none⟩) 1 c]] W (RetV W (.int .i64 4))) := Lib.hid (fun W h => by rw [← first_count]; exact Count_any _ _ firstF _ n W (hRV.fr0 h) first_cnt first_tx)
 have HPR : Hid (∀ W, Fr [] V W → Calls Tryz.prog 26 #[.agg #[.slice (some ⟨bk, off, none⟩) 1 c]] W (RetV W (.tuple #[.string firstT, .int .i64 0]))) := Lib.hid (fun W h => by
  have := Print_any _ c firstF _ n W (hRV.fr0 h) first_cnt first_tx (tabH_of HTB.out ((hf1.trans hfV).trans h) (Nat.le_refl _)).is
  rw [first_printO] at this
  exact this)
 have HWH : Hid (∀ W, Fr [] V W → Calls Tryz.prog 27 #[.agg #[.slice (some ⟨bk, off, none⟩) 1 c], .int .i64 2] W (RetV W (.tuple #[.agg #[.int .i64 0, .bool false, .int .i64 1, .int .i64 1, .int .i64 0, .int .i64 1], .int .i64 0]))) := Lib.hid (fun W h => by
  have := Where_any 2 _ c firstF _ n W (hRV.fr0 h) first_cnt first_tx
  rw [first_where] at this
  exact this)
 clear hV hR hRV HP HTB
 go_upto_region 2 with fail
 rw [HV.out]
 go_wp2_with fail
 refine (HC.out _ frx).mono ?_
 rintro e w2 ⟨rfl, hf2⟩
 have q0 := hf2.cell q0 (by simp)
 have hn2 := hf2.cell hn2 (by simp)
 go_wp2_with fail
 refine (HPR.out _ hf2).mono ?_
 rintro e w3 ⟨rfl, hf3⟩
 have q0 := hf3.cell q0 (by simp)
 have hf3 := hf2.trans hf3
 go_wp2_with fail
 refine (HWH.out _ hf3).mono ?_
 rintro e w4 ⟨rfl, hf4⟩
 have hf4 := hf3.trans hf4
 go_wp2
 go_ret
 exact ⟨rfl, ((hf1.trans hfV).trans hf4).alloc _⟩
end

/- LangStrings: the walk. -/
section
open Go.RowKit
set_option linter.unusedSimpArgs false
structure Tabs (w : World) : Prop where
 err : Tab w
 pow : Lib.TabIs Tryz.prog w "internal/strconv.uint64pow10" .u64 Lib.pow10Tab
theorem Tabs.fr {w w' : World} (h : Tabs w) (hf : Fr [] w w') : Tabs w' := ⟨h.err.fr hf, (tabH_of h.pow hf (Nat.le_refl _)).is⟩
theorem lives_t {w : World} (h : Tabs w) : Calls Tryz.prog 16 #[] w (RetV w (.bool true)) := lives_any w h.err h.pow
end

/- LangSame: the walk. -/
section
open Go.RowKit Go.Sort
set_option linter.unusedSimpArgs false
end

end Go.Proofs.YtchldahkcpbgcaaGreatDoor
