/- Texts of this seat, one behind the other: Sam, Sam2, Sam3. -/
import Derived.Test.YtchldahkcpbgcaaGreatDoorsk4
import Derived.Test.YtchldahkcpbgcaaGreatDoorsk1
import Derived.LoopTactic
import Derived.Deep.QuietTactic
import Derived.BigQuiet
import Derived.Deep.DeepCutAuto
namespace Go.Proofs.YtchldahkcpbgcaaGreatDoor
set_option linter.unusedVariables false

/- Same of the program. -/
section
open Go.RowKit
set_option linter.unusedSimpArgs false
theorem EqualStr_any {S S' : Nat → Prop} (A B : Option Addr) (c d : Nat) (l m : List ByteArray) (w : World) (hl : RdS S w .string A c l) (hm : RdS S' w .string B d m) :
  Calls Tryz.prog 86 #[.slice A l.length c, .slice B m.length d] w (RetV w (.bool (decide (l = m)))) := by
 have hl1 := hl.1.bound
 have hm1 := hm.1.bound
 go_enter Tryz.func86, Tryz.ntmps86
 by_cases hlen : l.length = m.length
 ·rw [← hlen]
  go_wp2_with fail
  go_loopw [13] (fun i wr => ∃ k : Nat, k ≤ l.length ∧ i = .int .i64 k ∧ Hid (l.take k = m.take k) ∧ ∃ n, wr = w.drewN n) (fun i _ => l.length - (intOf i).toNat)
  case atStart => exact ⟨0, Nat.zero_le _, rfl, Lib.hid rfl, 0, rfl⟩
  case round =>
   obtain ⟨k, hk, rfl, HE, n, rfl⟩ := hrel
   by_cases hlt : k < l.length
   ·obtain ⟨kb, off, x, rfl, hx, hcx⟩ := hl.1.at_ hlt
    obtain ⟨kb', off', y, rfl, hy, hcy⟩ := hm.1.at_ (k := k) (by omega)
    by_cases hxy : x = y
    ·have HS := Lib.hid (eq_step HE.out hx hy hxy)
     subst hxy
     go_wp2
     go_quiet (fail)
     go_wp2_with fail
     go_roundw
     case rel => exact ⟨k + 1, by omega, by go_num, HS, _, rfl⟩
     case measure => simp [intOf]; omega
    ·have HN := Lib.hid (ne_step hx hy hxy)
     have hq := str_ne hxy
     go_wp2
     go_quiet (fail)
     go_wp2_with fail
     go_ret
     exact ⟨ret_bool (by simp [HN.out]), Fr.drewN (Fr.drewN (Fr.refl _ _) _) _⟩
   ·have HS : Hid (l = m) := Lib.hid (by have h := HE.out; rwa [List.take_of_length_le (by omega), List.take_of_length_le (by omega)] at h)
    go_wp2
    go_ret
    exact ⟨ret_bool (by simp [HS.out]), Fr.drewN (Fr.refl _ _) _⟩
 ·have HN : Hid (l ≠ m) := Lib.hid (fun h => hlen (by rw [h]))
  go_wp2
  go_ret
  exact ⟨ret_bool (by simp [HN.out]), Fr.refl _ _⟩
def EqN (n : Nat) : Prop := ∀ (S S' : Nat → Prop) (m : Nat) (x y : Nd) (h h' : HdN) (w : World), NdH S n w h x → NdH S' m w h' y →
 Calls Tryz.prog 144 #[.agg (ndCells x h), .agg (ndCells y h')] w (RetV w (.bool (x.eqB y)))
def EqLs (n : Nat) : Prop := ∀ (S S' : Nat → Prop) (m : Nat) (A B : Option Addr) (c d : Nat) (l l' : List Nd) (w : World), LN S n w A c l → LN S' m w B d l' →
 Calls Tryz.prog 87 #[.slice A l.length c, .slice B l'.length d] w (RetV w (.bool (eqL l l')))
set_option maxRecDepth 20000 in
set_option maxHeartbeats 3200000 in
theorem EqualFunc_step (n : Nat) (hE : EqN n) (S S' : Nat → Prop) (m : Nat) (A B : Option Addr) (c d : Nat) (l l' : List Nd) (w : World) (hl : LN S (n + 1) w A c l) (hm : LN S' m w B d l') :
  Calls Tryz.prog 143 #[.slice A l.length c, .slice B l'.length d, .func (.func 144) #[] #[]] w (RetV w (.bool (eqL l l'))) := by
 have hl1 := hl.len
 have hm1 := hm.len
 obtain ⟨m, rfl⟩ : ∃ q, m = q + 1 := by
  cases m with
  | zero => exact absurd hm id
  | succ q => exact ⟨q, rfl⟩
 have HL := Lib.hid hl
 have HM := Lib.hid hm
 have HE := Lib.hid hE
 clear hl hm hE
 go_enter Tryz.func143, Tryz.ntmps143
 by_cases hlen : l.length = l'.length
 ·rw [← hlen]
  have HLEN := Lib.hid hlen
  clear hlen hm1
  go_wp2_with fail
  go_loopw [17] (fun i wr => ∃ k : Nat, k ≤ l.length ∧ i = .int .i64 k ∧ Hid (l.take k = l'.take k) ∧ Fr [] w wr) (fun i _ => l.length - (intOf i).toNat)
  case atStart => exact ⟨0, Nat.zero_le _, rfl, Lib.hid rfl, Fr.refl _ _⟩
  case round =>
   obtain ⟨k, hk, rfl, HT, hf⟩ := hrel
   by_cases hlt : k < l.length
   ·obtain ⟨kb, off, x, hd, rfl, hx, hN, hH, hkb⟩ := (HL.out.fr0 hf).at_ hlt
    obtain ⟨kb', off', y, hd', rfl, hy, hN', hH', hkb'⟩ := (HM.out.fr0 hf).at_ (k := k) (by have := HLEN.out; omega)
    have hkl := hN.lt
    have hkl' := hN'.lt
    have hkl2 : kb' < wr.heap.size + 1 := by omega
    obtain ⟨c0, c1, c2, c3, c4, c5, c6⟩ := hN
    obtain ⟨e0, e1, e2, e3, e4, e5, e6⟩ := hN'
    obtain ⟨V, hV⟩ : ∃ V, V = (wr.alloc (.cells (ndCells x hd) 46)).alloc (.cells (ndCells y hd') 46) := ⟨_, rfl⟩
    have hfV : Fr [] wr V := by rw [hV]; exact ((Fr.refl _ _).alloc _).alloc _
    have HC : Hid (Calls Tryz.prog 144 #[.agg (ndCells x hd), .agg (ndCells y hd')] V (RetV V (.bool (x.eqB y)))) := Lib.hid (HE.out S S' m x y hd hd' V (hH.fr0 hfV) (hH'.fr0 hfV))
    have HV := Lib.hid hV.symm
    have hB1 : Blk V wr.heap.size 46 (ndCells x hd) := by rw [hV]; exact (Blk.new _ _ _ _ rfl).alloc _
    have hB2 : Blk V (wr.heap.size + 1) 46 (ndCells y hd') := by rw [hV]; exact Blk.new _ _ _ _ (by simp)
    clear hV hH hH'
    obtain ⟨q, hq⟩ : ∃ q, x.eqB y = q := ⟨_, rfl⟩
    have HQ := Lib.hid hq
    rw [hq] at HC
    clear hq
    go_upto_region 7 with fail
    rw [HV.out]
    clear c0 c1 c2 c3 c4 c5 c6 e0 e1 e2 e3 e4 e5 e6
    have c0 : V.cell? ⟨wr.heap.size, 0, none⟩ = _ := hB1.cell 0 rfl
    have c1 : V.cell? ⟨wr.heap.size, 1, none⟩ = _ := hB1.cell 1 rfl
    have c2 : V.cell? ⟨wr.heap.size, 2, none⟩ = _ := hB1.cell 2 rfl
    have c3 : V.cell? ⟨wr.heap.size, 3, none⟩ = _ := hB1.cell 3 rfl
    have c4 : V.cell? ⟨wr.heap.size, 4, none⟩ = _ := hB1.cell 4 rfl
    have c5 : V.cell? ⟨wr.heap.size, 5, none⟩ = _ := hB1.cell 5 rfl
    have c6 : V.cell? ⟨wr.heap.size, 6, none⟩ = _ := hB1.cell 6 rfl
    have e0 : V.cell? ⟨wr.heap.size + 1, 0, none⟩ = _ := hB2.cell 0 rfl
    have e1 : V.cell? ⟨wr.heap.size + 1, 1, none⟩ = _ := hB2.cell 1 rfl
    have e2 : V.cell? ⟨wr.heap.size + 1, 2, none⟩ = _ := hB2.cell 2 rfl
    have e3 : V.cell? ⟨wr.heap.size + 1, 3, none⟩ = _ := hB2.cell 3 rfl
    have e4 : V.cell? ⟨wr.heap.size + 1, 4, none⟩ = _ := hB2.cell 4 rfl
    have e5 : V.cell? ⟨wr.heap.size + 1, 5, none⟩ = _ := hB2.cell 5 rfl
    have e6 : V.cell? ⟨wr.heap.size + 1, 6, none⟩ = _ := hB2.cell 6 rfl
    go_wp2_with fail
    refine HC.out.mono ?_
    rintro e w1 ⟨rfl, hf1⟩
    have hf1 := hfV.trans hf1
    cases q
    ·have HN := Lib.hid (ne_step hx hy (fun h => by have := (x.eqB_iff y).2 h; rw [HQ.out] at this; cases this))
     go_wp2
     go_ret
     exact ⟨ret_bool (eqL_ne HN.out).symm, hf.trans hf1⟩
    ·have HS := Lib.hid (eq_step HT.out hx hy ((x.eqB_iff y).1 HQ.out))
     go_wp2
     go_roundw
     case rel => exact ⟨k + 1, by omega, by go_num, HS, hf.trans hf1⟩
     case measure => simp [intOf]; omega
   ·have HS : Hid (l = l') := Lib.hid (by have h := HT.out; rwa [List.take_of_length_le (by omega), List.take_of_length_le (by have := HLEN.out; omega)] at h)
    go_wp2
    go_ret
    exact ⟨ret_bool (by rw [HS.out, eqL_self]), hf⟩
 ·go_wp2
  go_ret
  exact ⟨ret_bool (eqL_len hlen).symm, Fr.refl _ _⟩
theorem sameNodes_step (n : Nat) (hE : EqN n) : EqLs (n + 1) := by
 intro S S' m A B c d l l' w hl hm
 go_enter Tryz.func87, Tryz.ntmps87
 go_wp2_with fail
 refine (EqualFunc_step n hE S S' m A B c d l l' w hl hm).mono ?_
 rintro e w1 ⟨rfl, hf1⟩
 go_wp2
 go_ret
 exact ⟨rfl, hf1⟩
end

/- The closures of sameNodes and Same; Same of the program (printed by gen/sam2.py). -/
section
open Go.RowKit
set_option linter.unusedSimpArgs false
set_option maxRecDepth 20000 in
set_option maxHeartbeats 3200000 in
theorem node_eq (n : Nat) (hL : EqLs n) : EqN n := by
 intro S S' m x y h h' w hx hy
 obtain ⟨W, hW⟩ : ∃ W, W = (w.alloc (.cells (ndCells x h) 46)).alloc (.cells (ndCells y h') 46) := ⟨_, rfl⟩
 have hfW : Fr [] w W := by rw [hW]; exact ((Fr.refl _ _).alloc _).alloc _
 have hB1 : Blk W w.heap.size 46 (ndCells x h) := by rw [hW]; exact (Blk.new _ _ _ _ rfl).alloc _
 have hB2 : Blk W (w.heap.size + 1) 46 (ndCells y h') := by rw [hW]; exact Blk.new _ _ _ _ (by simp)
 have HP : Hid (∀ V, Fr [] W V → Calls Tryz.prog 86 #[.slice h.Ap x.params.length h.cp, .slice h'.Ap y.params.length h'.cp] V (RetV V (.bool (decide (x.params = y.params))))) := Lib.hid fun V hf => EqualStr_any _ _ _ _ _ _ V (hx.params.fr0 (hfW.trans hf)) (hy.params.fr0 (hfW.trans hf))
 have HS : Hid (∀ V, Fr [] W V → Calls Tryz.prog 87 #[.slice h.As x.subs.length h.cs, .slice h'.As y.subs.length h'.cs] V (RetV V (.bool (eqL x.subs y.subs)))) := Lib.hid fun V hf => hL S S' m _ _ _ _ _ _ V (hx.subs.fr0 (hfW.trans hf)) (hy.subs.fr0 (hfW.trans hf))
 have HB : Hid (∀ V, Fr [] W V → Calls Tryz.prog 87 #[.slice h.Ab x.body.length h.cb, .slice h'.Ab y.body.length h'.cb] V (RetV V (.bool (eqL x.body y.body)))) := Lib.hid fun V hf => hL S S' m _ _ _ _ _ _ V (hx.body.fr0 (hfW.trans hf)) (hy.body.fr0 (hfW.trans hf))
 have HE : Hid (∀ V, Fr [] W V → Calls Tryz.prog 87 #[.slice h.Ae x.els.length h.ce, .slice h'.Ae y.els.length h'.ce] V (RetV V (.bool (eqL x.els y.els)))) := Lib.hid fun V hf => hL S S' m _ _ _ _ _ _ V (hx.els.fr0 (hfW.trans hf)) (hy.els.fr0 (hfW.trans hf))
 have HW := Lib.hid hW.symm
 have HR := Lib.hid (x.eqB_eq y)
 clear hW hx hy hL
 have c0 : W.cell? ⟨w.heap.size, 0, none⟩ = some (.int .u8 x.kind) := hB1.cell 0 rfl
 have c1 : W.cell? ⟨w.heap.size, 1, none⟩ = some (.string x.text) := hB1.cell 1 rfl
 have c2 : W.cell? ⟨w.heap.size, 2, none⟩ = some (.int .i64 x.num) := hB1.cell 2 rfl
 have c3 : W.cell? ⟨w.heap.size, 3, none⟩ = some (.slice h.As x.subs.length h.cs) := hB1.cell 3 rfl
 have c4 : W.cell? ⟨w.heap.size, 4, none⟩ = some (.slice h.Ap x.params.length h.cp) := hB1.cell 4 rfl
 have c5 : W.cell? ⟨w.heap.size, 5, none⟩ = some (.slice h.Ab x.body.length h.cb) := hB1.cell 5 rfl
 have c6 : W.cell? ⟨w.heap.size, 6, none⟩ = some (.slice h.Ae x.els.length h.ce) := hB1.cell 6 rfl
 have e0 : W.cell? ⟨w.heap.size + 1, 0, none⟩ = some (.int .u8 y.kind) := hB2.cell 0 rfl
 have e1 : W.cell? ⟨w.heap.size + 1, 1, none⟩ = some (.string y.text) := hB2.cell 1 rfl
 have e2 : W.cell? ⟨w.heap.size + 1, 2, none⟩ = some (.int .i64 y.num) := hB2.cell 2 rfl
 have e3 : W.cell? ⟨w.heap.size + 1, 3, none⟩ = some (.slice h'.As y.subs.length h'.cs) := hB2.cell 3 rfl
 have e4 : W.cell? ⟨w.heap.size + 1, 4, none⟩ = some (.slice h'.Ap y.params.length h'.cp) := hB2.cell 4 rfl
 have e5 : W.cell? ⟨w.heap.size + 1, 5, none⟩ = some (.slice h'.Ab y.body.length h'.cb) := hB2.cell 5 rfl
 have e6 : W.cell? ⟨w.heap.size + 1, 6, none⟩ = some (.slice h'.Ae y.els.length h'.ce) := hB2.cell 6 rfl
 generalize x.eqB y = r at *
 generalize eqL x.subs y.subs = bs at *
 generalize eqL x.body y.body = bb at *
 generalize eqL x.els y.els = be at *
 generalize x.kind = xk at *
 generalize y.kind = yk at *
 generalize x.text = xt at *
 generalize y.text = yt at *
 generalize x.num = xn at *
 generalize y.num = yn at *
 generalize (decide (x.params = y.params)) = bp at *
 go_enter Tryz.func144, Tryz.ntmps144
 go_upto_region 1 with fail
 rw [HW.out]
 by_cases hk : xk = yk
 rotate_left 1
 ·have q1 : (xk == yk) = false := by simpa using hk
  have HK : Hid (decide (xk = yk) = false) := Lib.hid (by simpa using hk)
  clear hk
  go_wp2
  go_ret
  exact ⟨ret_bool (by rw [HR.out, HK.out]; rfl), hfW⟩
 subst hk
 by_cases ht : xt = yt
 rotate_left 1
 ·have q1 := str_ne ht
  have HK : Hid (decide (xt = yt) = false) := Lib.hid (by simpa using ht)
  clear ht
  go_wp2
  go_ret
  exact ⟨ret_bool (by rw [HR.out, HK.out]; simp), hfW⟩
 subst ht
 by_cases hn : xn = yn
 rotate_left 1
 ·have q1 : (xn == yn) = false := by simpa using hn
  have HK : Hid (decide (xn = yn) = false) := Lib.hid (by simpa using hn)
  clear hn
  go_wp2
  go_ret
  exact ⟨ret_bool (by rw [HR.out, HK.out]; simp), hfW⟩
 subst hn
 go_wp2_with fail
 refine (HP.out _ (Fr.refl _ _)).mono ?_
 rintro e w1 ⟨rfl, hf1⟩
 cases bp
 ·go_wp2
  go_ret
  exact ⟨ret_bool (by rw [HR.out]; simp), hfW.trans hf1⟩
 have c3 : w1.cell? ⟨w.heap.size, 3, none⟩ = some (.slice h.As x.subs.length h.cs) := (hB1.fr hf1 (by simp)).cell 3 rfl
 have c5 : w1.cell? ⟨w.heap.size, 5, none⟩ = some (.slice h.Ab x.body.length h.cb) := (hB1.fr hf1 (by simp)).cell 5 rfl
 have c6 : w1.cell? ⟨w.heap.size, 6, none⟩ = some (.slice h.Ae x.els.length h.ce) := (hB1.fr hf1 (by simp)).cell 6 rfl
 have e3 : w1.cell? ⟨w.heap.size + 1, 3, none⟩ = some (.slice h'.As y.subs.length h'.cs) := (hB2.fr hf1 (by simp)).cell 3 rfl
 have e5 : w1.cell? ⟨w.heap.size + 1, 5, none⟩ = some (.slice h'.Ab y.body.length h'.cb) := (hB2.fr hf1 (by simp)).cell 5 rfl
 have e6 : w1.cell? ⟨w.heap.size + 1, 6, none⟩ = some (.slice h'.Ae y.els.length h'.ce) := (hB2.fr hf1 (by simp)).cell 6 rfl
 go_wp2_with fail
 refine (HS.out _ hf1).mono ?_
 rintro e w2 ⟨rfl, hg2⟩
 have hf2 := hf1.trans hg2
 cases bs
 ·go_wp2
  go_ret
  exact ⟨ret_bool (by rw [HR.out]; simp), hfW.trans hf2⟩
 have c3 : w2.cell? ⟨w.heap.size, 3, none⟩ = some (.slice h.As x.subs.length h.cs) := (hB1.fr hf2 (by simp)).cell 3 rfl
 have c5 : w2.cell? ⟨w.heap.size, 5, none⟩ = some (.slice h.Ab x.body.length h.cb) := (hB1.fr hf2 (by simp)).cell 5 rfl
 have c6 : w2.cell? ⟨w.heap.size, 6, none⟩ = some (.slice h.Ae x.els.length h.ce) := (hB1.fr hf2 (by simp)).cell 6 rfl
 have e3 : w2.cell? ⟨w.heap.size + 1, 3, none⟩ = some (.slice h'.As y.subs.length h'.cs) := (hB2.fr hf2 (by simp)).cell 3 rfl
 have e5 : w2.cell? ⟨w.heap.size + 1, 5, none⟩ = some (.slice h'.Ab y.body.length h'.cb) := (hB2.fr hf2 (by simp)).cell 5 rfl
 have e6 : w2.cell? ⟨w.heap.size + 1, 6, none⟩ = some (.slice h'.Ae y.els.length h'.ce) := (hB2.fr hf2 (by simp)).cell 6 rfl
 go_wp2_with fail
 refine (HB.out _ hf2).mono ?_
 rintro e w3 ⟨rfl, hg3⟩
 have hf3 := hf2.trans hg3
 cases bb
 ·go_wp2
  go_ret
  exact ⟨ret_bool (by rw [HR.out]; simp), hfW.trans hf3⟩
 have c3 : w3.cell? ⟨w.heap.size, 3, none⟩ = some (.slice h.As x.subs.length h.cs) := (hB1.fr hf3 (by simp)).cell 3 rfl
 have c5 : w3.cell? ⟨w.heap.size, 5, none⟩ = some (.slice h.Ab x.body.length h.cb) := (hB1.fr hf3 (by simp)).cell 5 rfl
 have c6 : w3.cell? ⟨w.heap.size, 6, none⟩ = some (.slice h.Ae x.els.length h.ce) := (hB1.fr hf3 (by simp)).cell 6 rfl
 have e3 : w3.cell? ⟨w.heap.size + 1, 3, none⟩ = some (.slice h'.As y.subs.length h'.cs) := (hB2.fr hf3 (by simp)).cell 3 rfl
 have e5 : w3.cell? ⟨w.heap.size + 1, 5, none⟩ = some (.slice h'.Ab y.body.length h'.cb) := (hB2.fr hf3 (by simp)).cell 5 rfl
 have e6 : w3.cell? ⟨w.heap.size + 1, 6, none⟩ = some (.slice h'.Ae y.els.length h'.ce) := (hB2.fr hf3 (by simp)).cell 6 rfl
 go_wp2_with fail
 refine (HE.out _ hf3).mono ?_
 rintro e w4 ⟨rfl, hg4⟩
 have hf4 := hf3.trans hg4
 go_wp2
 go_ret
 exact ⟨ret_bool (by rw [HR.out]; simp), hfW.trans hf4⟩
theorem eqLs_all (n : Nat) : EqLs n := by
 induction n with
 | zero => intro S S' m A B c d l l' w hl; exact absurd hl id
 | succ n ih => exact sameNodes_step n (node_eq n ih)
theorem sameNodes_any {S S' : Nat → Prop} {n m : Nat} {A B : Option Addr} {c d : Nat} {l l' : List Nd} {w : World} (hl : LN S n w A c l) (hm : LN S' m w B d l') :
  Calls Tryz.prog 87 #[.slice A l.length c, .slice B l'.length d] w (RetV w (.bool (eqL l l'))) := eqLs_all n S S' m A B c d l l' w hl hm
end

/- Same of the program. -/
section
open Go.RowKit
set_option linter.unusedSimpArgs false
abbrev fu3C (f : Fu) (Ap : Option Addr) (cp : Nat) (Ab : Option Addr) (cb : Nat) : Array Value := #[.string f.name, .slice Ap f.params.length cp, .slice Ab f.body.length cb]
set_option maxRecDepth 20000 in
set_option maxHeartbeats 3200000 in
theorem fu_eq {S S' : Nat → Prop} {n m : Nat} (f g : Fu) (Ap Ab Bp Bb : Option Addr) (cp cb dp db : Nat) (w : World) (hp : RdS S w .string Ap cp f.params) (hb : LN S n w Ab cb f.body) (hp' : RdS S' w .string Bp dp g.params) (hb' : LN S' m w Bb db g.body) :
  Calls Tryz.prog 85 #[.agg (fu3C f Ap cp Ab cb), .agg (fu3C g Bp dp Bb db)] w (RetV w (.bool (f.eqB g))) := by
 obtain ⟨W, hW⟩ : ∃ W, W = (w.alloc (.cells (fu3C f Ap cp Ab cb) 81)).alloc (.cells (fu3C g Bp dp Bb db) 81) := ⟨_, rfl⟩
 have hfW : Fr [] w W := by rw [hW]; exact ((Fr.refl _ _).alloc _).alloc _
 have hB1 : Blk W w.heap.size 81 (fu3C f Ap cp Ab cb) := by rw [hW]; exact (Blk.new _ _ _ _ rfl).alloc _
 have hB2 : Blk W (w.heap.size + 1) 81 (fu3C g Bp dp Bb db) := by rw [hW]; exact Blk.new _ _ _ _ (by simp)
 have HP : Hid (∀ V, Fr [] W V → Calls Tryz.prog 86 #[.slice Ap f.params.length cp, .slice Bp g.params.length dp] V (RetV V (.bool (decide (f.params = g.params))))) := Lib.hid fun V hf => EqualStr_any _ _ _ _ _ _ V (hp.fr0 (hfW.trans hf)) (hp'.fr0 (hfW.trans hf))
 have HB : Hid (∀ V, Fr [] W V → Calls Tryz.prog 87 #[.slice Ab f.body.length cb, .slice Bb g.body.length db] V (RetV V (.bool (eqL f.body g.body)))) := Lib.hid fun V hf => sameNodes_any (hb.fr0 (hfW.trans hf)) (hb'.fr0 (hfW.trans hf))
 have HW := Lib.hid hW.symm
 have HR : Hid (f.eqB g = (decide (f.name = g.name) && (decide (f.params = g.params) && eqL f.body g.body))) := Lib.hid rfl
 clear hW hp hb hp' hb'
 have c0 : W.cell? ⟨w.heap.size, 0, none⟩ = some (.string f.name) := hB1.cell 0 rfl
 have c1 : W.cell? ⟨w.heap.size, 1, none⟩ = some (.slice Ap f.params.length cp) := hB1.cell 1 rfl
 have c2 : W.cell? ⟨w.heap.size, 2, none⟩ = some (.slice Ab f.body.length cb) := hB1.cell 2 rfl
 have e0 : W.cell? ⟨w.heap.size + 1, 0, none⟩ = some (.string g.name) := hB2.cell 0 rfl
 have e1 : W.cell? ⟨w.heap.size + 1, 1, none⟩ = some (.slice Bp g.params.length dp) := hB2.cell 1 rfl
 have e2 : W.cell? ⟨w.heap.size + 1, 2, none⟩ = some (.slice Bb g.body.length db) := hB2.cell 2 rfl
 generalize f.eqB g = r at *
 generalize eqL f.body g.body = bb at *
 generalize f.name = xt at *
 generalize g.name = yt at *
 generalize (decide (f.params = g.params)) = bp at *
 go_enter Tryz.func85, Tryz.ntmps85
 go_upto_region 1 with fail
 rw [HW.out]
 by_cases ht : xt = yt
 rotate_left 1
 ·have q1 := str_ne ht
  have HK : Hid (decide (xt = yt) = false) := Lib.hid (by simpa using ht)
  clear ht
  go_wp2
  go_ret
  exact ⟨ret_bool (by rw [HR.out, HK.out]; simp), hfW⟩
 subst ht
 go_wp2_with fail
 refine (HP.out _ (Fr.refl _ _)).mono ?_
 rintro e w1 ⟨rfl, hf1⟩
 cases bp
 ·go_wp2
  go_ret
  exact ⟨ret_bool (by rw [HR.out]; simp), hfW.trans hf1⟩
 have c2 : w1.cell? ⟨w.heap.size, 2, none⟩ = some (.slice Ab f.body.length cb) := (hB1.fr hf1 (by simp)).cell 2 rfl
 have e2 : w1.cell? ⟨w.heap.size + 1, 2, none⟩ = some (.slice Bb g.body.length db) := (hB2.fr hf1 (by simp)).cell 2 rfl
 go_wp2_with fail
 refine (HB.out _ hf1).mono ?_
 rintro e w2 ⟨rfl, hg2⟩
 have hf2 := hf1.trans hg2
 go_wp2
 go_ret
 exact ⟨ret_bool (by rw [HR.out]; simp), hfW.trans hf2⟩
set_option maxRecDepth 20000 in
set_option maxHeartbeats 3200000 in
theorem EqualFu_any {S S' : Nat → Prop} {n m : Nat} (A B : Option Addr) (c d : Nat) (l l' : List Fu) (w : World) (hl : RF S n w A c l) (hm : RF S' m w B d l') :
  Calls Tryz.prog 84 #[.slice A l.length c, .slice B l'.length d, .func (.func 85) #[] #[]] w (RetV w (.bool (eqFs l l'))) := by
 have hl1 := hl.bound
 have hm1 := hm.bound
 have HL := Lib.hid hl
 have HM := Lib.hid hm
 clear hl hm
 go_enter Tryz.func84, Tryz.ntmps84
 by_cases hlen : l.length = l'.length
 ·rw [← hlen]
  have HLEN := Lib.hid hlen
  clear hlen hm1
  go_wp2_with fail
  go_loopw [17] (fun i wr => ∃ k : Nat, k ≤ l.length ∧ i = .int .i64 k ∧ Hid (l.take k = l'.take k) ∧ Fr [] w wr) (fun i _ => l.length - (intOf i).toNat)
  case atStart => exact ⟨0, Nat.zero_le _, rfl, Lib.hid rfl, Fr.refl _ _⟩
  case round =>
   obtain ⟨k, hk, rfl, HT, hf⟩ := hrel
   by_cases hlt : k < l.length
   ·obtain ⟨kb, off, x, Ap, cp, Ab, cb, rfl, hx, c0, c1, c2, hp, hb, hkb⟩ := (HL.out.fr0 hf).at_ hlt
    obtain ⟨kb', off', y, Bp, dp, Bb, db, rfl, hy, e0, e1, e2, hp', hb', hkb'⟩ := (HM.out.fr0 hf).at_ (k := k) (by have := HLEN.out; omega)
    have hkl := World.block_lt_of_cell? wr _ c0
    have hkl' := World.block_lt_of_cell? wr _ e0
    have hkl2 : kb' < wr.heap.size + 1 := by have : kb' < wr.heap.size := hkl'; omega
    obtain ⟨V, hV⟩ : ∃ V, V = (wr.alloc (.cells (fu3C x Ap cp Ab cb) 81)).alloc (.cells (fu3C y Bp dp Bb db) 81) := ⟨_, rfl⟩
    have hfV : Fr [] wr V := by rw [hV]; exact ((Fr.refl _ _).alloc _).alloc _
    have HC : Hid (Calls Tryz.prog 85 #[.agg (fu3C x Ap cp Ab cb), .agg (fu3C y Bp dp Bb db)] V (RetV V (.bool (x.eqB y)))) := Lib.hid (fu_eq x y _ _ _ _ _ _ _ _ V (hp.fr0 hfV) (hb.fr0 hfV) (hp'.fr0 hfV) (hb'.fr0 hfV))
    have HV := Lib.hid hV.symm
    have hB1 : Blk V wr.heap.size 81 (fu3C x Ap cp Ab cb) := by rw [hV]; exact (Blk.new _ _ _ _ rfl).alloc _
    have hB2 : Blk V (wr.heap.size + 1) 81 (fu3C y Bp dp Bb db) := by rw [hV]; exact Blk.new _ _ _ _ (by simp)
    clear hV hp hb hp' hb'
    obtain ⟨q, hq⟩ : ∃ q, x.eqB y = q := ⟨_, rfl⟩
    have HQ := Lib.hid hq
    rw [hq] at HC
    clear hq
    go_upto_region 7 with fail
    rw [HV.out]
    clear c0 c1 c2 e0 e1 e2
    have c0 : V.cell? ⟨wr.heap.size, 0, none⟩ = some (.string x.name) := hB1.cell 0 rfl
    have c1 : V.cell? ⟨wr.heap.size, 1, none⟩ = some (.slice Ap x.params.length cp) := hB1.cell 1 rfl
    have c2 : V.cell? ⟨wr.heap.size, 2, none⟩ = some (.slice Ab x.body.length cb) := hB1.cell 2 rfl
    have e0 : V.cell? ⟨wr.heap.size + 1, 0, none⟩ = some (.string y.name) := hB2.cell 0 rfl
    have e1 : V.cell? ⟨wr.heap.size + 1, 1, none⟩ = some (.slice Bp y.params.length dp) := hB2.cell 1 rfl
    have e2 : V.cell? ⟨wr.heap.size + 1, 2, none⟩ = some (.slice Bb y.body.length db) := hB2.cell 2 rfl
    go_wp2_with fail
    refine HC.out.mono ?_
    rintro e w1 ⟨rfl, hf1⟩
    have hf1 := hfV.trans hf1
    cases q
    ·have HN := Lib.hid (ne_step hx hy (fun h => by have := (x.eqB_iff y).2 h; rw [HQ.out] at this; cases this))
     go_wp2
     go_ret
     exact ⟨ret_bool (eqFs_ne HN.out).symm, hf.trans hf1⟩
    ·have HS := Lib.hid (eq_step HT.out hx hy ((x.eqB_iff y).1 HQ.out))
     go_wp2
     go_roundw
     case rel => exact ⟨k + 1, by omega, by go_num, HS, hf.trans hf1⟩
     case measure => simp [intOf]; omega
   ·have HS : Hid (l = l') := Lib.hid (by have h := HT.out; rwa [List.take_of_length_le (by omega), List.take_of_length_le (by have := HLEN.out; omega)] at h)
    go_wp2
    go_ret
    exact ⟨ret_bool (by rw [HS.out, eqFs_self]), hf⟩
 ·have HN := Lib.hid (eqFs_ne (l := l) (m := l') (fun h => hlen (by rw [h])))
  go_wp2
  go_ret
  exact ⟨ret_bool HN.out.symm, Fr.refl _ _⟩
set_option maxRecDepth 20000 in
set_option maxHeartbeats 3200000 in
theorem Same_any {S S' : Nat → Prop} {n m : Nat} {A B : Option Addr} {c d : Nat} {l l' : List Fu} {w : World} (hl : RF S n w A c l) (hm : RF S' m w B d l') :
  Calls Tryz.prog 25 #[.agg #[.slice A l.length c], .agg #[.slice B l'.length d]] w (RetV w (.bool (eqFs l l'))) := by
 obtain ⟨W, hW⟩ : ∃ W, W = (w.alloc (.cells #[.slice A l.length c] 25)).alloc (.cells #[.slice B l'.length d] 25) := ⟨_, rfl⟩
 have hfW : Fr [] w W := by rw [hW]; exact ((Fr.refl _ _).alloc _).alloc _
 have hB1 : Blk W w.heap.size 25 #[.slice A l.length c] := by rw [hW]; exact (Blk.new _ _ _ _ rfl).alloc _
 have hB2 : Blk W (w.heap.size + 1) 25 #[.slice B l'.length d] := by rw [hW]; exact Blk.new _ _ _ _ (by simp)
 have HC := Lib.hid (EqualFu_any A B c d l l' W (hl.fr0 hfW) (hm.fr0 hfW))
 have HW := Lib.hid hW.symm
 clear hW hl hm
 have c0 : W.cell? ⟨w.heap.size, 0, none⟩ = some (.slice A l.length c) := hB1.cell 0 rfl
 have e0 : W.cell? ⟨w.heap.size + 1, 0, none⟩ = some (.slice B l'.length d) := hB2.cell 0 rfl
 go_enter Tryz.func25, Tryz.ntmps25
 go_upto_region 1 with fail
 rw [HW.out]
 go_wp2_with fail
 refine HC.out.mono ?_
 rintro e w1 ⟨rfl, hf1⟩
 go_wp2
 go_ret
 exact ⟨rfl, hfW.trans hf1⟩
end

end Go.Proofs.YtchldahkcpbgcaaGreatDoor
