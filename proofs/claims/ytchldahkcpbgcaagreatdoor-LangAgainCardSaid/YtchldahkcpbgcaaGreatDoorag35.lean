/- Texts of this seat, one behind the other: LAgM, LAg. -/
import Derived.Test.YtchldahkcpbgcaaGreatDoorag33
import Derived.Test.YtchldahkcpbgcaaGreatDoorag32
import Derived.Test.YtchldahkcpbgcaaGreatDoorag34
namespace Go.Proofs.YtchldahkcpbgcaaGreatDoor
set_option linter.unusedVariables false

/- LangAgain: what the parser and the printer say of each other: plain. -/
section
open Go.RowKit
set_option linter.unusedSimpArgs false
theorem topL_of {l : List Nd} (h : ∀ x ∈ l, x.top) : topL l := by
 induction l with
 | nil => trivial
 | cons x l ih => exact ⟨h x (by simp), ih fun y hy => h y (List.mem_cons_of_mem _ hy)⟩
theorem LN.top {S : Nat → Prop} {w : World} : ∀ {n : Nat} {A : Option Addr} {c : Nat} {l : List Nd}, LN S n w A c l → topL l
  | 0, _, _, _, h => absurd h id
  | n + 1, A, c, l, h => by
    refine topL_of fun x hx => ?_
    obtain ⟨k, hk, rfl⟩ := List.getElem_of_mem hx
    obtain ⟨b, off, y, hd, _, hy, _, hn, _⟩ := h.at_ hk
    have e := hy.out
    rw [List.getElem?_eq_getElem hk] at e
    injection e with e
    rw [e, Nd.top_eq]
    exact ⟨hn.ok.2.2, hn.subs.top, hn.body.top, hn.els.top⟩
theorem RF.top {S : Nat → Prop} {n : Nat} {w : World} {A : Option Addr} {c : Nat} {fs : List Fu} (h : RF S n w A c fs) : topF fs := by
 intro f hf
 obtain ⟨k, hk, rfl⟩ := List.getElem_of_mem hf
 obtain ⟨b, off, y, Ap, cp, Ab, cb, _, hy, _, _, _, _, hbd, _⟩ := h.at_ hk
 have e := hy.out
 rw [List.getElem?_eq_getElem hk] at e
 injection e with e
 rw [e]
 exact hbd.top
theorem oneW_place {s : ByteArray} {k : Nat} {w : Wd} (h : oneW s k = some w) : w.place = k := by
 unfold oneW at h
 split at h
 ·simp only at h
  split at h
  ·cases h
  ·injection h with h
   rw [← h]
 ·split at h
  ·simp only at h
   split at h
   ·injection h with h
    rw [← h]
   ·cases h
  ·split at h
   ·injection h with h
    rw [← h]
   ·cases h
theorem wordsN_bad {s : ByteArray} : ∀ (n k j : Nat) (acc : List Wd), wordsN s n k acc = .inr j → j ≤ s.size
  | 0, k, j, acc, h => by simp [wordsN] at h
  | n + 1, k, j, acc, h => by
    rw [wordsN] at h
    split at h
    · split at h
      · injection h with h
        omega
      · exact wordsN_bad n _ _ _ h
    · cases h
theorem parse_bad {s : ByteArray} {fs : List Fu} {a e : Int} (hs : s.size ≤ 65536) (h : parseO s = (fs, a, e)) (he : e ≠ 0) : fs = [] ∧ 0 ≤ a ∧ a ≤ s.size := by
  unfold parseO at h
  rw [if_neg (by omega)] at h
  cases hw : wordsW s with
  | inr k =>
    rw [hw] at h
    simp only [Prod.mk.injEq] at h
    obtain ⟨rfl, rfl, rfl⟩ := h
    have := wordsN_bad _ _ _ _ hw
    exact ⟨rfl, by omega, by omega⟩
  | inl ws =>
    rw [hw] at h
    simp only at h
    have hat := words_at s.size (skipTo s 0) [] ws (by simp) hw
    split at h
    · split at h
      · simp only [Prod.mk.injEq] at h
        exact absurd h.2.2.symm he
      · simp only [Prod.mk.injEq] at h
        obtain ⟨rfl, rfl, rfl⟩ := h
        exact ⟨rfl, by omega, by omega⟩
    · rename_i j _
      simp only [Prod.mk.injEq] at h
      obtain ⟨rfl, rfl, rfl⟩ := h
      unfold placeAt
      cases hj : ws[j]? with
      | none =>
        simp only
        exact ⟨trivial, by omega, by omega⟩
      | some w =>
        obtain ⟨k, hk, ho⟩ := hat w (List.mem_of_getElem? hj)
        have := oneW_place ho
        simp only
        exact ⟨trivial, by omega, by omega⟩
    · simp only [Prod.mk.injEq] at h
      exact absurd h.2.2.symm he
theorem parse_good {s : ByteArray} {fs : List Fu} {a : Int} (h : parseO s = (fs, a, 0)) : a = 0 ∧ shapeP fs = 0 := by
 unfold parseO at h
 split at h
 ·simp only [Prod.mk.injEq] at h
  exact absurd h.2.2 (by decide)
 ·split at h
  ·simp only [Prod.mk.injEq] at h
   exact absurd h.2.2 (by decide)
  ·split at h
   ·split at h
    ·rename_i h0
     simp only [Prod.mk.injEq] at h
     obtain ⟨rfl, rfl, _⟩ := h
     exact ⟨rfl, h0⟩
    ·rename_i h0
     simp only [Prod.mk.injEq] at h
     exact absurd h.2.2 h0
   ·simp only [Prod.mk.injEq] at h
    exact absurd h.2.2 (by decide)
   ·simp only [Prod.mk.injEq] at h
    obtain ⟨rfl, rfl, _⟩ := h
    exact ⟨rfl, by decide⟩
theorem shape_cnt {fs : List Fu} (h : shapeP fs = 0) : cntF fs ≤ 1000000000 := by
 unfold shapeP at h
 split at h
 ·exact absurd h (by decide)
 ·split at h
  ·exact absurd h (by decide)
  ·omega
theorem shape_fu {fs : List Fu} (h : shapeP fs = 0) : ∀ f ∈ fs, fuB f = true := by
 unfold shapeP at h
 split at h
 ·exact absurd h (by decide)
 ·split at h
  ·exact absurd h (by decide)
  ·split at h
   ·rename_i h1
    exact fun f hf => List.all_eq_true.1 h1 f hf
   ·exact absurd h (by decide)
theorem print_parse {fs : List Fu} (h : shapeP fs = 0) (ht : topF fs) : ((printO fs).2 = 3 ∧ (printO fs).1 = bt []) ∨ ((printO fs).2 = 0 ∧ parseO (printO fs).1 = (fs, 0, 0) ∧ (printO fs).1.size ≤ 65536) := by
 unfold printO
 rw [if_neg (by rw [h]; decide)]
 split
 ·exact .inl ⟨rfl, rfl⟩
 ·rename_i hl
  refine .inr ⟨rfl, ?_, ?_⟩
  ·obtain ⟨ws, h1, h2⟩ := prog_round (shape_fu h) ht
   unfold parseO
   simp only
   rw [if_neg (by rw [← sb_len, sb_bt]; omega), h1]
   simp only
   rw [h2]
   simp only
   rw [if_pos h]
  ·rw [← sb_len, sb_bt]
   omega
end

/- LangAgain: the walk. -/
section
open Go.RowKit
set_option linter.unusedSimpArgs false
set_option maxRecDepth 20000 in
set_option maxHeartbeats 3200000 in
theorem LAg_any (s : ByteArray) (w : World) (hmax : s.size ≤ 9223372036854775807) (ht : Tabs w) : Calls Tryz.prog 6 #[.string s] w (RetV w (.bool true)) := by
 have HL : Hid (∀ W, Fr [] w W → Calls Tryz.prog 16 #[] W (RetV W (.bool true))) := Lib.hid fun W h => lives_t (ht.fr h)
 by_cases h : 4096 < s.size
 ·clear ht
  go_enter Tryz.func6, Tryz.ntmps6
  go_wp2_with fail
  refine (HL.out _ frx).mono ?_
  rintro e w1 ⟨rfl, hf1⟩
  go_wp2
  go_ret
  exact ⟨rfl, frx⟩
 have hsz : s.size ≤ 65536 := by omega
 obtain ⟨⟨fs, a, e⟩, hpo⟩ : ∃ r, parseO s = r := ⟨_, rfl⟩
 have HP : Hid (∀ W, Fr [] w W → Calls Tryz.prog 17 #[.string s] W (fun en w' => ∃ A c n, en = .returned (.tuple #[.agg #[.slice A fs.length c], .int .i64 a, .int .i64 e]) ∧ RF (Bel W) n w' A c fs ∧ Fr [] W w')) := Lib.hid fun W hf => by
  have := Parse_any s W hmax (ht.fr hf).err
  rw [hpo] at this
  exact this
 by_cases he : e = 0
 ·subst he
  obtain ⟨rfl, hsh⟩ := parse_good hpo
  have HPR : Hid (∀ W A c n S, Fr [] w W → RF S n W A c fs → Calls Tryz.prog 26 #[.agg #[.slice A fs.length c]] W (RetV W (.tuple #[.string (printO fs).1, .int .i64 (printO fs).2]))) := Lib.hid fun W A c n S hf hR => Print_any A c fs S n W hR (shape_cnt hsh) (txF_of_shape hsh) (ht.fr hf).pow
  have HPQ : Hid (∀ W t, Fr [] w W → t.size ≤ 65536 → parseO t = (fs, 0, 0) → Calls Tryz.prog 17 #[.string t] W (fun en w' => ∃ A c n, en = .returned (.tuple #[.agg #[.slice A fs.length c], .int .i64 0, .int .i64 0]) ∧ RF (Bel W) n w' A c fs ∧ Fr [] W w')) := Lib.hid fun W t hf ht' hp => by
   have := Parse_any t W (by omega) (ht.fr hf).err
   rw [hp] at this
   exact this
  have HPP : Hid (topF fs → ((printO fs).2 = 3 ∧ (printO fs).1 = bt []) ∨ ((printO fs).2 = 0 ∧ parseO (printO fs).1 = (fs, 0, 0) ∧ (printO fs).1.size ≤ 65536)) := Lib.hid (print_parse hsh)
  clear hpo hsh ht hmax
  go_enter Tryz.func6, Tryz.ntmps6
  go_wp2_with fail
  refine (HP.out _ frx).mono ?_
  rintro en w1 ⟨A, c, n, rfl, hR, hf1⟩
  have hpp := HPP.out hR.top
  clear HPP HP
  generalize (printO fs).1 = t at *
  generalize (printO fs).2 = f at *
  obtain ⟨H, hH⟩ : ∃ H, H = w1.heap.size := ⟨_, rfl⟩
  go_upto_region 4 with fail
  rw [← hH]
  refine wp_hide (fun M hM => ?_)
  have hfM : Fr [] w1 M := by rw [hM]; exact (Fr.refl _ _).alloc _
  have hB : Blk M H 25 #[.slice A fs.length c] := by rw [hM]; exact Blk.new _ _ _ _ hH
  have hwM := hf1.trans hfM
  have hRM := hR.fr0 hfM
  have q0 : M.cell? ⟨H, 0, none⟩ = some (.slice A fs.length c) := hB.cell 0 rfl
  clear hM hR hH
  go_wp2_with fail
  refine (HPR.out _ _ _ _ _ hwM hRM).mono ?_
  rintro en w2 ⟨rfl, hf2⟩
  rcases hpp with ⟨rfl, rfl⟩ | ⟨rfl, hpt, htl⟩
  ·clear hRM HPR HPQ
   go_wp2_with fail
   refine (HL.out _ (hwM.trans hf2)).mono ?_
   rintro e w3 ⟨rfl, hf3⟩
   go_wp2
   go_ret
   exact ⟨rfl, (hwM.trans hf2).trans hf3⟩
  have HPT : Hid (∀ W, Fr [] w W → Calls Tryz.prog 17 #[.string t] W (fun en w' => ∃ A c n, en = .returned (.tuple #[.agg #[.slice A fs.length c], .int .i64 0, .int .i64 0]) ∧ RF (Bel W) n w' A c fs ∧ Fr [] W w')) := Lib.hid fun W hf => HPQ.out W t hf htl hpt
  clear hpt htl HPQ
  have hw2 := hwM.trans hf2
  go_wp2_with fail
  refine (HPT.out _ hw2).mono ?_
  rintro en w3 ⟨A', c', n', rfl, hR', hf3⟩
  have hR3 := hRM.fr0 (hf2.trans hf3)
  have q3 := (hf2.trans hf3).cell q0 (by simp)
  have hw3 := hw2.trans hf3
  clear hRM
  obtain ⟨K, hK⟩ : ∃ K, K = w3.heap.size := ⟨_, rfl⟩
  go_upto_region 10 with fail
  rw [← hK]
  refine wp_hide (fun M3 hM3 => ?_)
  have hfM3 : Fr [] w3 M3 := by rw [hM3]; exact (Fr.refl _ _).alloc _
  have hB3 : Blk M3 K 25 #[.slice A' fs.length c'] := by rw [hM3]; exact Blk.new _ _ _ _ hK
  have hwM3 := hw3.trans hfM3
  have hRM3 := hR3.fr0 hfM3
  have hRM3' := hR'.fr0 hfM3
  have q4 : M3.cell? ⟨H, 0, none⟩ = some (.slice A fs.length c) := hfM3.cell q3 (by simp)
  have p4 : M3.cell? ⟨K, 0, none⟩ = some (.slice A' fs.length c') := hB3.cell 0 rfl
  clear hM3 hR' hR3 q3 hB3 hK
  go_wp2_with fail
  refine (HPR.out _ _ _ _ _ hwM3 hRM3').mono ?_
  rintro en w5 ⟨rfl, hf5⟩
  have HS : Hid (∀ W, Fr [] w5 W → Calls Tryz.prog 25 #[.agg #[.slice A fs.length c], .agg #[.slice A' fs.length c']] W (RetV W (.bool true))) := Lib.hid fun W hf => by
   have := Same_any (hRM3.fr0 (hf5.trans hf)) (hRM3'.fr0 (hf5.trans hf))
   rw [eqFs_self] at this
   exact this
  have q5 := hf5.cell q4 (by simp)
  have p5 := hf5.cell p4 (by simp)
  have hw5 := hwM3.trans hf5
  clear hRM3 hRM3' HPR HPT q4 p4
  go_wp2_with fail
  refine (HS.out _ (Fr.refl _ _)).mono ?_
  rintro en w6 ⟨rfl, hf6⟩
  go_wp2_with fail
  refine (HL.out _ (hw5.trans hf6)).mono ?_
  rintro en w7 ⟨rfl, hf7⟩
  go_wp2
  go_ret
  exact ⟨rfl, (hw5.trans hf6).trans hf7⟩
 ·obtain ⟨rfl, h0, h1⟩ := parse_bad hsz hpo he
  have e1 : (e != 0) = true := by simpa using he
  clear hpo ht hmax
  go_enter Tryz.func6, Tryz.ntmps6
  go_wp2_with fail
  refine (HP.out _ frx).mono ?_
  rintro en w1 ⟨A, c, n, rfl, hR, hf1⟩
  clear hR HP
  go_wp2_with fail
  refine (HL.out _ (hf1.alloc _)).mono ?_
  rintro en w2 ⟨rfl, hf2⟩
  go_wp2
  go_ret
  exact ⟨rfl, (hf1.alloc _).trans hf2⟩
end

end Go.Proofs.YtchldahkcpbgcaaGreatDoor
