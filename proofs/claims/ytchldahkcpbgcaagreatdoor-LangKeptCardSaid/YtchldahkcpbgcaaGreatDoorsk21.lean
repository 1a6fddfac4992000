/- Texts of this seat, one behind the other: Shp, ParJ. -/
import Derived.Test.YtchldahkcpbgcaaGreatDoorsk8
import Derived.Test.YtchldahkcpbgcaaGreatDoorsk20
import Derived.Test.YtchldahkcpbgcaaGreatDoorsk2
namespace Go.Proofs.YtchldahkcpbgcaaGreatDoor
set_option linter.unusedVariables false

/- The checker of shapes. -/
section
open Go.RowKit
set_option linter.unusedSimpArgs false
def TxOk (x : Nd) : Prop := x.text.size ≤ 9223372036854775807 ∧ ∀ s ∈ x.params, s.size ≤ 9223372036854775807
mutual
def Nd.tx : Nd → Prop
 | .mk k t m s p b e => (t.size ≤ 9223372036854775807 ∧ ∀ s ∈ p, s.size ≤ 9223372036854775807) ∧ txL s ∧ txL b ∧ txL e
def txL : List Nd → Prop
 | [] => True
 | x :: l => x.tx ∧ txL l
end
abbrev TxL (l : List Nd) : Prop := ∀ x ∈ l, x.tx
theorem txL_iff : ∀ l : List Nd, txL l ↔ TxL l
  | [] => by
    rw [txL]
    exact ⟨fun _ x hx => (by cases hx), fun _ => trivial⟩
  | x :: l => by
    rw [txL, txL_iff l]
    exact ⟨fun h y hy => (List.mem_cons.1 hy).elim (fun e => e ▸ h.1) (h.2 y), fun h => ⟨h x (by simp), fun y hy => h y (by simp [hy])⟩⟩
theorem Nd.tx_iff (x : Nd) : x.tx ↔ TxOk x ∧ TxL x.subs ∧ TxL x.body ∧ TxL x.els := by
 cases x
 rw [Nd.tx, txL_iff, txL_iff, txL_iff]
 rfl
def NodeOk (n : Nat) : Prop := ∀ (S : Nat → Prop) (mb b o : Nat) (x : Nd) (hd : HdN) (inFn : Bool) (w : World), NdAt w b o x hd → NdH S n w hd x → MapAt w mb encK encRul rulL → x.tx →
 Calls Tryz.prog 172 #[.agg #[.map (some mb)], .pointer (some ⟨b, o, none⟩), .bool inFn] w (RetV w (.bool (x.okB inFn)))
set_option maxRecDepth 20000 in
set_option maxHeartbeats 3200000 in
theorem statements_step (n : Nat) (hnode : NodeOk n) (S : Nat → Prop) (mb : Nat) (A : Option Addr) (c : Nat) (l : List Nd) (inFn : Bool) (w : World) (hl : LN S (n + 1) w A c l) (hm : MapAt w mb encK encRul rulL) (hs : TxL l) :
  Calls Tryz.prog 116 #[.agg #[.map (some mb)], .slice A l.length c, .bool inFn] w (RetV w (.bool (lsB false inFn l))) := by
 have hl1 := hl.len
 obtain ⟨V, hV⟩ : ∃ V, V = w.alloc (.cells #[.map (some mb)] 152) := ⟨_, rfl⟩
 have hf0 : Fr [] w V := by rw [hV]; exact frx
 have hC0 : Blk V w.heap.size 152 #[.map (some mb)] := by rw [hV]; exact Blk.new _ _ _ _ rfl
 have HV := Lib.hid hV.symm
 clear hV
 go_enter Tryz.func116, Tryz.ntmps116
 go_wp2
 rw [HV.out]
 go_loopw [10] (fun i wr => ∃ k : Nat, k ≤ l.length ∧ i = .int .i64 k ∧ Hid (lsB false inFn (l.take k) = true) ∧ Fr [] V wr) (fun i _ => l.length - (intOf i).toNat)
 case atStart => exact ⟨0, Nat.zero_le _, rfl, rfl, Fr.refl _ _⟩
 case round =>
  obtain ⟨k, hk, rfl, HE, hf⟩ := hrel
  have hF := hf0.trans hf
  have hC := hC0.fr hf (by simp)
  have q0 : wr.cell? ⟨w.heap.size, 0, none⟩ = some (.map (some mb)) := hC.cell 0 rfl
  by_cases hlt : k < l.length
  ·obtain ⟨b, off, x, hd, rfl, hx, hN, hH, _⟩ := hl.at_ hlt
   have hN := hN.fr0 hF
   have c0 := hN.c0
   obtain ⟨b1, hb1⟩ : ∃ b, isStmtK x.kind = b := ⟨_, rfl⟩
   obtain ⟨b2, hb2⟩ : ∃ b, x.okB inFn = b := ⟨_, rfl⟩
   cases b1
   ·have HR := Lib.hid (lsB_false (ex := false) (inFn := inFn) hx (.inl hb1))
    have HQ : Hid (∀ w, Calls Tryz.prog 108 #[.int .u8 x.kind] w (RetQ w (.bool false))) := Lib.hid (fun w => hb1 ▸ isStatement_any x.kind w)
    clear hb1 hb2
    go_wp2_with fail
    go_quiet ((go_at_call 108; first | exact quiet_of (HQ.out _) | exact quiet_add (HQ.out _)))
    go_wp2
    go_ret
    exact ⟨ret_bool HR.out.symm, frx⟩
   ·have HK := Lib.hid hb1
    have HX := Lib.hid hb2
    have HN := Lib.hid (fun w' h1 h2 h3 => hnode S mb b (off + k * 7) x hd inFn w' h1 h2 h3 (hs x (List.mem_of_getElem? hx.out)))
    have HT := Lib.hid (fun h => lsB_take (ex := false) hx HE hb1 h)
    have HFa := Lib.hid (fun h => lsB_false (ex := false) (inFn := inFn) hx (.inr h))
    clear hb1
    go_wp2_with fail
    go_region_held3 (fun w' => w'.cell? ⟨w.heap.size, 0, none⟩ = some (.map (some mb)) ∧ w'.cell? ⟨b, off + k * 7, none⟩ = some (.int .u8 x.kind))
     (first
      | (go_keep; done)
      | with_reducible exact ⟨hFb.cell q0 (by simp), hFb.cell c0 (by simp)⟩)
     (first
      | (go_at_call 108; refine (isStatement_any x.kind _).mono ?_; rw [HK.out]; rintro e wa ⟨rfl, na, rfl⟩)
      | (go_at_call 172; refine (HN.out _ (hN.fr0 frx) (hH.fr0 (Fr.trans hF frx)) (hm.fr0 (Fr.trans hF frx))).mono ?_; rw [HX.out]; rintro e wa ⟨rfl, hfa⟩; have hFb : Fr [] wr wa := (Fr.trans frx hfa)))
    cases b2
    ·have HR := Lib.hid (HFa.out HX.out)
     go_wp2
     go_ret
     exact ⟨ret_bool HR.out.symm, hF.trans hFb⟩
    ·have HR := HT.out HX.out
     go_wp2
     go_roundw
     case rel => exact ⟨k + 1, by omega, by go_num, HR, hf.trans hFb⟩
     case measure => simp [intOf]; omega
  ·have hall : lsB false inFn l = true := by
    have := HE.out
    rw [List.take_of_length_le (by omega)] at this
    exact this
   have hall := Lib.hid hall
   go_wp2
   go_ret
   exact ⟨ret_bool hall.out.symm, hF⟩
set_option maxRecDepth 20000 in
set_option maxHeartbeats 3200000 in
theorem expressions_step (n : Nat) (hnode : NodeOk n) (S : Nat → Prop) (mb : Nat) (A : Option Addr) (c : Nat) (l : List Nd) (inFn : Bool) (w : World) (hl : LN S (n + 1) w A c l) (hm : MapAt w mb encK encRul rulL) (hs : TxL l) :
  Calls Tryz.prog 205 #[.agg #[.map (some mb)], .slice A l.length c, .bool inFn] w (RetV w (.bool (lsB true inFn l))) := by
 have hl1 := hl.len
 obtain ⟨V, hV⟩ : ∃ V, V = w.alloc (.cells #[.map (some mb)] 152) := ⟨_, rfl⟩
 have hf0 : Fr [] w V := by rw [hV]; exact frx
 have hC0 : Blk V w.heap.size 152 #[.map (some mb)] := by rw [hV]; exact Blk.new _ _ _ _ rfl
 have HV := Lib.hid hV.symm
 clear hV
 go_enter Tryz.func205, Tryz.ntmps205
 go_wp2
 rw [HV.out]
 go_loopw [10] (fun i wr => ∃ k : Nat, k ≤ l.length ∧ i = .int .i64 k ∧ Hid (lsB true inFn (l.take k) = true) ∧ Fr [] V wr) (fun i _ => l.length - (intOf i).toNat)
 case atStart => exact ⟨0, Nat.zero_le _, rfl, rfl, Fr.refl _ _⟩
 case round =>
  obtain ⟨k, hk, rfl, HE, hf⟩ := hrel
  have hF := hf0.trans hf
  have hC := hC0.fr hf (by simp)
  have q0 : wr.cell? ⟨w.heap.size, 0, none⟩ = some (.map (some mb)) := hC.cell 0 rfl
  by_cases hlt : k < l.length
  ·obtain ⟨b, off, x, hd, rfl, hx, hN, hH, _⟩ := hl.at_ hlt
   have hN := hN.fr0 hF
   have c0 := hN.c0
   obtain ⟨b1, hb1⟩ : ∃ b, isExprK x.kind = b := ⟨_, rfl⟩
   obtain ⟨b2, hb2⟩ : ∃ b, x.okB inFn = b := ⟨_, rfl⟩
   cases b1
   ·have HR := Lib.hid (lsB_false (ex := true) (inFn := inFn) hx (.inl hb1))
    have HQ : Hid (∀ w, Calls Tryz.prog 102 #[.int .u8 x.kind] w (RetQ w (.bool false))) := Lib.hid (fun w => hb1 ▸ isExpr_any x.kind w)
    clear hb1 hb2
    go_wp2_with fail
    go_quiet ((go_at_call 102; first | exact quiet_of (HQ.out _) | exact quiet_add (HQ.out _)))
    go_wp2
    go_ret
    exact ⟨ret_bool HR.out.symm, frx⟩
   ·have HK := Lib.hid hb1
    have HX := Lib.hid hb2
    have HN := Lib.hid (fun w' h1 h2 h3 => hnode S mb b (off + k * 7) x hd inFn w' h1 h2 h3 (hs x (List.mem_of_getElem? hx.out)))
    have HT := Lib.hid (fun h => lsB_take (ex := true) hx HE hb1 h)
    have HFa := Lib.hid (fun h => lsB_false (ex := true) (inFn := inFn) hx (.inr h))
    clear hb1
    go_wp2_with fail
    go_region_held3 (fun w' => w'.cell? ⟨w.heap.size, 0, none⟩ = some (.map (some mb)) ∧ w'.cell? ⟨b, off + k * 7, none⟩ = some (.int .u8 x.kind))
     (first
      | (go_keep; done)
      | with_reducible exact ⟨hFb.cell q0 (by simp), hFb.cell c0 (by simp)⟩)
     (first
      | (go_at_call 102; refine (isExpr_any x.kind _).mono ?_; rw [HK.out]; rintro e wa ⟨rfl, na, rfl⟩)
      | (go_at_call 172; refine (HN.out _ (hN.fr0 frx) (hH.fr0 (Fr.trans hF frx)) (hm.fr0 (Fr.trans hF frx))).mono ?_; rw [HX.out]; rintro e wa ⟨rfl, hfa⟩; have hFb : Fr [] wr wa := (Fr.trans frx hfa)))
    cases b2
    ·have HR := Lib.hid (HFa.out HX.out)
     go_wp2
     go_ret
     exact ⟨ret_bool HR.out.symm, hF.trans hFb⟩
    ·have HR := HT.out HX.out
     go_wp2
     go_roundw
     case rel => exact ⟨k + 1, by omega, by go_num, HR, hf.trans hFb⟩
     case measure => simp [intOf]; omega
  ·have hall : lsB true inFn l = true := by
    have := HE.out
    rw [List.take_of_length_le (by omega)] at this
    exact this
   have hall := Lib.hid hall
   go_wp2
   go_ret
   exact ⟨ret_bool hall.out.symm, hF⟩
end

/- How many nodes the parser makes, how long their texts are: plain. -/
section
open Go.RowKit
set_option linter.unusedSimpArgs false
def oneJob : Job → Bool
 | .block => false
 | .blockL _ => false
 | .args => false
 | .argsL _ => false
 | _ => true
def cntJob : Job → Nat
 | .blockL acc => cntL acc
 | .binL _ x _ => x.cnt
 | .argsL acc => cntL acc
 | .postL x _ => x.cnt
 | _ => 0
def txJob : Job → Prop
 | .blockL acc => TxL acc
 | .binL _ x _ => x.tx
 | .argsL acc => TxL acc
 | .postL x _ => x.tx
 | _ => True
structure Sz (job : Job) (i : Nat) (l : List Nd) (j : Nat) : Prop where
 cnt : cntL l + i ≤ j + cntJob job
 tx : TxL l
 one : oneJob job = true → l.length = 1
section
variable {ws : List Wd} {i j k : Nat} {t : ByteArray}
theorem nameW_tx (hw : ∀ w ∈ ws, w.text.size ≤ 1000000) (h : nameW ws i = some t) : t.size ≤ 9223372036854775807 := by
  unfold nameW at h
  cases hi : ws[i]? with
  | none => rw [hi] at h; cases h
  | some w =>
    rw [hi] at h
    simp only at h
    split at h
    · injection h with h
      subst h
      have := hw w (List.mem_of_getElem? hi)
      omega
    · cases h
theorem opW_tx (hw : ∀ w ∈ ws, w.text.size ≤ 1000000) {lv : Nat} (h : opW ws i lv = some t) : t.size ≤ 9223372036854775807 := by
  unfold opW at h
  cases hi : ws[i]? with
  | none => rw [hi] at h; cases h
  | some w =>
    rw [hi] at h
    simp only at h
    split at h
    · injection h with h
      subst h
      have := hw w (List.mem_of_getElem? hi)
      omega
    · cases h
theorem nmL_tx : ∀ (l : List Wd) (acc : List ByteArray) (i : Nat) (ns : List ByteArray) (j : Nat), (∀ w ∈ l, w.text.size ≤ 1000000) → (∀ s ∈ acc, s.size ≤ 9223372036854775807) → nmL l acc i = .inl (ns, j) → ∀ s ∈ ns, s.size ≤ 9223372036854775807
  | [], acc, i, ns, j, hw, ha, h => by simp [nmL] at h
  | w :: [], acc, i, ns, j, hw, ha, h => by
    rw [nmL] at h
    split at h
    · cases h
    · split at h
      · injection h with h
        injection h with h1 h2
        subst h1
        exact ha
      · cases h
  | w :: v :: l, acc, i, ns, j, hw, ha, h => by
    rw [nmL] at h
    split at h
    · split at h
      · refine nmL_tx l _ _ ns j (fun x hx => hw x (by simp [hx])) (fun s hs => ?_) h
        rcases List.mem_append.1 hs with hs | hs
        · exact ha s hs
        · simp at hs
          subst hs
          have := hw v (by simp)
          omega
      · cases h
    · split at h
      · injection h with h
        injection h with h1 h2
        subst h1
        exact ha
      · cases h
theorem namesW_tx (hw : ∀ w ∈ ws, w.text.size ≤ 1000000) {ns : List ByteArray} (h : namesW ws i = .inl (ns, j)) : ∀ s ∈ ns, s.size ≤ 9223372036854775807 := by
  unfold namesW at h
  split at h
  · split at h
    · injection h with h
      injection h with h1 h2
      subst h1
      simp
    · cases hn : nameW ws (i + 1) with
      | none => rw [hn] at h; cases h
      | some t =>
        rw [hn] at h
        refine nmL_tx _ _ _ ns j (fun x hx => hw x (List.mem_of_mem_drop hx)) (fun s hs => ?_) h
        simp at hs
        subst hs
        exact nameW_tx hw hn
  · cases h
theorem ended_one {x : Nd} {l : List Nd} {b : Bool} (h : endedW ws x j = some (.ok l b k)) : l = [x] ∧ k = j + 1 := by
 unfold endedW at h
 split at h
 ·injection h with h
  injection h with h1 h2 h3
  exact ⟨h1.symm, h3.symm⟩
 ·injection h with h
  cases h
theorem one_hd {l : List Nd} (h : l.length = 1) : l = [hd1 l] := by
 match l, h with
 | [x], _ => rfl
theorem cntL_one (x : Nd) : cntL [x] = x.cnt := by simp [cntL]
theorem cnt_ndk (k : Int) (t : ByteArray) (s : List Nd) : (ndk k t s).cnt = 1 + cntL s := by
 rw [Nd.cnt_eq]
 rfl
theorem tx_mk {k : Int} {t : ByteArray} {m : Int} {s b e : List Nd} {p : List ByteArray} (ht : t.size ≤ 9223372036854775807) (hp : ∀ s ∈ p, s.size ≤ 9223372036854775807) (hs : TxL s) (hb : TxL b) (he : TxL e) : (Nd.mk k t m s p b e).tx :=
 (Nd.tx_iff _).2 ⟨⟨ht, hp⟩, hs, hb, he⟩
theorem TxL.nil : TxL [] := fun x hx => by cases hx
theorem TxL.one_ {x : Nd} (h : x.tx) : TxL [x] := fun y hy => by
 simp at hy
 subst hy
 exact h
theorem TxL.app {l m : List Nd} (hl : TxL l) (hm : TxL m) : TxL (l ++ m) := fun x hx => (List.mem_append.1 hx).elim (hl x) (hm x)
theorem tx_ndk {k : Int} {t : ByteArray} {s : List Nd} (ht : t.size ≤ 9223372036854775807) (hs : TxL s) : (ndk k t s).tx := tx_mk ht (by simp) hs TxL.nil TxL.nil
theorem bt_sz (l : List UInt8) (h : l.length ≤ 100) : (bt l).size ≤ 9223372036854775807 := by
 show l.toArray.size ≤ _
 simp
 omega
theorem Sz.hd {job : Job} {l : List Nd} (h : Sz job i l j) (h1 : oneJob job = true) : (hd1 l).cnt + i ≤ j + cntJob job ∧ (hd1 l).tx := by
 have e := one_hd (h.one h1)
 have c := h.cnt
 have t := h.tx
 rw [e, cntL_one] at c
 rw [e] at t
 exact ⟨c, t _ (by simp)⟩
theorem TxL.take {l : List Nd} (h : TxL l) (n : Nat) : TxL (l.take n) := fun x hx => h x (List.mem_of_mem_take hx)
end
set_option maxHeartbeats 2000000 in
theorem P_sz (ws : List Wd) (hw : ∀ w ∈ ws, w.text.size ≤ 1000000) : ∀ (n : Nat) (job : Job) (i : Nat) (l : List Nd) (b : Bool) (j : Nat), txJob job → P ws n job i = some (.ok l b j) → Sz job i l j
  | 0, job, i, l, b, j, _, h => by simp [P] at h
  | n + 1, job, i, l, b, j, ht, h => by
    have ih := P_sz ws hw n
    have E : (bt []).size ≤ 9223372036854775807 := bt_sz _ (by simp)
    cases job with
    | block =>
      rw [P] at h
      split at h
      · have := ih (.blockL []) _ _ _ _ TxL.nil h
        exact ⟨by have := this.cnt; simp only [cntJob, cntL] at *; omega, this.tx, fun h => by cases h⟩
      · injection h with h; cases h
    | blockL acc =>
      rw [P] at h
      split at h
      · injection h with h
        injection h with h1 h2 h3
        subst h1 h3
        exact ⟨by simp only [cntJob]; omega, ht, fun h => by cases h⟩
      · obtain ⟨l', b', k, h1, h2⟩ := andW_ok h
        obtain ⟨c1, t1⟩ := (ih .stmt _ _ _ _ trivial h1).hd rfl
        have := ih (.blockL _) _ _ _ _ (TxL.app ht (TxL.one_ t1)) h2
        refine ⟨?_, this.tx, fun h => by cases h⟩
        have c2 := this.cnt
        simp only [cntJob] at c1 c2 ⊢
        rw [cntL_app, cntL_one] at c2
        omega
    | stmt =>
      rw [P] at h
      revert h
      cases hd : (if isW ws (i + 1) (bt [61]) = true then nameW ws i else none) with
      | some t =>
        intro h
        obtain ⟨l', b', k, h1, h2⟩ := andW_ok h
        obtain ⟨c1, t1⟩ := (ih .expr _ _ _ _ trivial h1).hd rfl
        obtain ⟨rfl, rfl⟩ := ended_one h2
        have htt : t.size ≤ 9223372036854775807 := by
          split at hd
          · exact nameW_tx hw hd
          · cases hd
        refine ⟨?_, TxL.one_ (tx_ndk htt (TxL.one_ t1)), fun _ => rfl⟩
        simp only [cntJob, cntL_one, cnt_ndk] at c1 ⊢
        omega
      | none =>
        intro h
        try simp only at h
        cases hs : simpleK ws i with
        | some kk =>
          rw [hs] at h
          obtain ⟨l', b', k, h1, h2⟩ := andW_ok h
          obtain ⟨c1, t1⟩ := (ih .expr _ _ _ _ trivial h1).hd rfl
          obtain ⟨rfl, rfl⟩ := ended_one h2
          refine ⟨?_, TxL.one_ (tx_ndk E (TxL.one_ t1)), fun _ => rfl⟩
          simp only [cntJob, cntL_one, cnt_ndk] at c1 ⊢
          omega
        | none =>
          rw [hs] at h
          try simp only at h
          split at h
          · cases hn : nameW ws (i + 1) with
            | none => rw [hn] at h; injection h with h; cases h
            | some t =>
              rw [hn] at h
              try simp only at h
              split at h
              · obtain ⟨l', b', k, h1, h2⟩ := andW_ok h
                obtain ⟨c1, t1⟩ := (ih .expr _ _ _ _ trivial h1).hd rfl
                obtain ⟨rfl, rfl⟩ := ended_one h2
                refine ⟨?_, TxL.one_ (tx_ndk (nameW_tx hw hn) (TxL.one_ t1)), fun _ => rfl⟩
                simp only [cntJob, cntL_one, cnt_ndk] at c1 ⊢
                omega
              · injection h with h; cases h
          · split at h
            · obtain ⟨l', b', k, h1, h2⟩ := andW_ok h
              obtain ⟨c1, t1⟩ := (ih .expr _ _ _ _ trivial h1).hd rfl
              obtain ⟨l2, b2, k2, h3, h4⟩ := andW_ok h2
              have s2 := ih .block _ _ _ _ trivial h3
              have c2 := s2.cnt
              try simp only at h4
              split at h4
              · obtain ⟨l3, b3, k3, h5, h6⟩ := andW_ok h4
                have s3 := ih .block _ _ _ _ trivial h5
                have c3 := s3.cnt
                injection h6 with h6
                injection h6 with e1 e2 e3
                subst e1 e3
                refine ⟨?_, TxL.one_ (tx_mk E (by simp) (TxL.one_ t1) s2.tx s3.tx), fun _ => rfl⟩
                rw [cntL_one, Nd.cnt_eq]
                simp only [cntJob, Nd.subs, Nd.body, Nd.els, cntL_one] at c1 c2 c3 ⊢
                omega
              · injection h4 with h6
                injection h6 with e1 e2 e3
                subst e1 e3
                refine ⟨?_, TxL.one_ (tx_mk E (by simp) (TxL.one_ t1) s2.tx TxL.nil), fun _ => rfl⟩
                rw [cntL_one, Nd.cnt_eq]
                simp only [cntJob, Nd.subs, Nd.body, Nd.els, cntL_one, cntL] at c1 c2 ⊢
                omega
            · split at h
              · obtain ⟨l', b', k, h1, h2⟩ := andW_ok h
                obtain ⟨c1, t1⟩ := (ih .expr _ _ _ _ trivial h1).hd rfl
                obtain ⟨l2, b2, k2, h3, h4⟩ := andW_ok h2
                have s2 := ih .block _ _ _ _ trivial h3
                have c2 := s2.cnt
                injection h4 with h6
                injection h6 with e1 e2 e3
                subst e1 e3
                refine ⟨?_, TxL.one_ (tx_mk E (by simp) (TxL.one_ t1) s2.tx TxL.nil), fun _ => rfl⟩
                rw [cntL_one, Nd.cnt_eq]
                simp only [cntJob, Nd.subs, Nd.body, Nd.els, cntL_one, cntL] at c1 c2 ⊢
                omega
              · split at h
                · obtain ⟨l', b', k, h1, h2⟩ := andW_ok h
                  have s1 := ih .block _ _ _ _ trivial h1
                  have c1 := s1.cnt
                  try simp only at h2
                  split at h2
                  · cases hn : nameW ws (k + 1) with
                    | none => rw [hn] at h2; injection h2 with h2; cases h2
                    | some t =>
                      rw [hn] at h2
                      try simp only at h2
                      obtain ⟨l3, b3, k3, h5, h6⟩ := andW_ok h2
                      have s3 := ih .block _ _ _ _ trivial h5
                      have c3 := s3.cnt
                      injection h6 with h6
                      injection h6 with e1 e2 e3
                      subst e1 e3
                      refine ⟨?_, TxL.one_ (tx_mk (nameW_tx hw hn) (by simp) TxL.nil s1.tx s3.tx), fun _ => rfl⟩
                      rw [cntL_one, Nd.cnt_eq]
                      simp only [cntJob, Nd.subs, Nd.body, Nd.els, cntL] at c1 c3 ⊢
                      omega
                  · injection h2 with h2; cases h2
                · have := ih .other _ _ _ _ trivial h
                  exact ⟨this.cnt, this.tx, fun _ => this.one rfl⟩
    | other =>
      rw [P] at h
      obtain ⟨l', b', k, h1, h2⟩ := andW_ok h
      obtain ⟨c1, t1⟩ := (ih (.bin 0) _ _ _ _ trivial h1).hd rfl
      try simp only at h2
      split at h2
      · obtain ⟨l2, b2, k2, h3, h4⟩ := andW_ok h2
        obtain ⟨c2, t2⟩ := (ih .expr _ _ _ _ trivial h3).hd rfl
        obtain ⟨rfl, rfl⟩ := ended_one h4
        refine ⟨?_, TxL.one_ (tx_ndk E (TxL.app (TxL.take ((Nd.tx_iff _).1 t1).2.1 2) (TxL.one_ t2))), fun _ => rfl⟩
        have c3 := cntL_take_le (hd1 l').subs 2
        have c4 := Nd.cnt_eq (hd1 l')
        simp only [cntJob, cntL_one, cnt_ndk, cntL_app] at c1 c2 ⊢
        omega
      · obtain ⟨rfl, rfl⟩ := ended_one h2
        refine ⟨?_, TxL.one_ (tx_ndk E (TxL.one_ t1)), fun _ => rfl⟩
        simp only [cntJob, cntL_one, cnt_ndk] at c1 ⊢
        omega
    | expr =>
      rw [P] at h
      obtain ⟨l', b', k, h1, h2⟩ := andW_ok h
      have := ih (.bin 0) _ _ _ _ trivial h1
      injection h2 with h2
      injection h2 with e1 e2 e3
      subst e1 e3
      exact ⟨this.cnt, this.tx, fun _ => this.one rfl⟩
    | bin lv =>
      rw [P] at h
      split at h
      · have := ih .unary _ _ _ _ trivial h
        exact ⟨this.cnt, this.tx, fun _ => this.one rfl⟩
      · obtain ⟨l', b', k, h1, h2⟩ := andW_ok h
        obtain ⟨c1, t1⟩ := (ih (.bin (lv + 1)) _ _ _ _ trivial h1).hd rfl
        have := ih (.binL lv _ _) _ _ _ _ t1 h2
        refine ⟨?_, this.tx, fun _ => this.one rfl⟩
        have c2 := this.cnt
        simp only [cntJob] at c1 c2 ⊢
        omega
    | binL lv x b0 =>
      rw [P] at h
      cases ho : opW ws i lv with
      | none =>
        rw [ho] at h
        injection h with h
        injection h with h1 h2 h3
        subst h1 h3
        exact ⟨by simp only [cntJob, cntL_one]; omega, TxL.one_ ht, fun _ => rfl⟩
      | some t =>
        rw [ho] at h
        obtain ⟨l', b', k, h1, h2⟩ := andW_ok h
        obtain ⟨c1, t1⟩ := (ih (.bin (lv + 1)) _ _ _ _ trivial h1).hd rfl
        have hty : (ndk 4 t [x, hd1 l']).tx := tx_ndk (opW_tx hw ho) (TxL.app (l := [x]) (TxL.one_ ht) (TxL.one_ t1))
        have hcy : (ndk 4 t [x, hd1 l']).cnt = 1 + (x.cnt + (hd1 l').cnt) := by rw [cnt_ndk]; simp [cntL]
        split at h2
        · injection h2 with h2
          injection h2 with e1 e2 e3
          subst e1 e3
          refine ⟨?_, TxL.one_ hty, fun _ => rfl⟩
          simp only [cntJob, cntL_one, hcy] at c1 ⊢
          omega
        · have := ih (.binL lv (ndk 4 t [x, hd1 l']) false) _ _ _ _ hty h2
          refine ⟨?_, this.tx, fun _ => this.one rfl⟩
          have c2 := this.cnt
          simp only [cntJob, hcy] at c1 c2 ⊢
          omega
    | unary =>
      rw [P] at h
      split at h
      · obtain ⟨l', b', k, h1, h2⟩ := andW_ok h
        obtain ⟨c1, t1⟩ := (ih .unary _ _ _ _ trivial h1).hd rfl
        injection h2 with h2
        injection h2 with e1 e2 e3
        subst e1 e3
        refine ⟨?_, TxL.one_ (tx_ndk (bt_sz _ (by simp)) (TxL.one_ t1)), fun _ => rfl⟩
        simp only [cntJob, cntL_one, cnt_ndk] at c1 ⊢
        omega
      · split at h
        · obtain ⟨l', b', k, h1, h2⟩ := andW_ok h
          obtain ⟨c1, t1⟩ := (ih .unary _ _ _ _ trivial h1).hd rfl
          injection h2 with h2
          injection h2 with e1 e2 e3
          subst e1 e3
          refine ⟨?_, TxL.one_ (tx_ndk (bt_sz _ (by simp)) (TxL.one_ t1)), fun _ => rfl⟩
          simp only [cntJob, cntL_one, cnt_ndk] at c1 ⊢
          omega
        · have := ih .pfx _ _ _ _ trivial h
          exact ⟨this.cnt, this.tx, fun _ => this.one rfl⟩
    | args =>
      rw [P] at h
      split at h
      · injection h with h
        injection h with e1 e2 e3
        subst e1 e3
        exact ⟨by simp only [cntJob, cntL]; omega, TxL.nil, fun h => by cases h⟩
      · obtain ⟨l', b', k, h1, h2⟩ := andW_ok h
        obtain ⟨c1, t1⟩ := (ih .expr _ _ _ _ trivial h1).hd rfl
        have := ih (.argsL _) _ _ _ _ (TxL.one_ t1) h2
        refine ⟨?_, this.tx, fun h => by cases h⟩
        have c2 := this.cnt
        simp only [cntJob, cntL_one] at c1 c2 ⊢
        omega
    | argsL acc =>
      rw [P] at h
      split at h
      · obtain ⟨l', b', k, h1, h2⟩ := andW_ok h
        obtain ⟨c1, t1⟩ := (ih .expr _ _ _ _ trivial h1).hd rfl
        have := ih (.argsL _) _ _ _ _ (TxL.app ht (TxL.one_ t1)) h2
        refine ⟨?_, this.tx, fun h => by cases h⟩
        have c2 := this.cnt
        simp only [cntJob, cntL_one, cntL_app] at c1 c2 ⊢
        omega
      · split at h
        · injection h with h
          injection h with e1 e2 e3
          subst e1 e3
          exact ⟨by simp only [cntJob]; omega, ht, fun h => by cases h⟩
        · injection h with h; cases h
    | pfx =>
      rw [P] at h
      obtain ⟨l', b', k, h1, h2⟩ := andW_ok h
      obtain ⟨c1, t1⟩ := (ih .atom _ _ _ _ trivial h1).hd rfl
      have := ih (.postL _ _) _ _ _ _ t1 h2
      refine ⟨?_, this.tx, fun _ => this.one rfl⟩
      have c2 := this.cnt
      simp only [cntJob] at c1 c2 ⊢
      omega
    | postL x b0 =>
      rw [P] at h
      split at h
      · obtain ⟨l', b', k, h1, h2⟩ := andW_ok h
        obtain ⟨c1, t1⟩ := (ih .expr _ _ _ _ trivial h1).hd rfl
        try simp only at h2
        split at h2
        · have hty : (ndk 8 (bt []) [x, hd1 l']).tx := tx_ndk E (TxL.app (l := [x]) (TxL.one_ ht) (TxL.one_ t1))
          have hcy : (ndk 8 (bt []) [x, hd1 l']).cnt = 1 + (x.cnt + (hd1 l').cnt) := by rw [cnt_ndk]; simp [cntL]
          have := ih (.postL (ndk 8 (bt []) [x, hd1 l']) true) _ _ _ _ hty h2
          refine ⟨?_, this.tx, fun _ => this.one rfl⟩
          have c2 := this.cnt
          simp only [cntJob, hcy] at c1 c2 ⊢
          omega
        · injection h2 with h2; cases h2
      · split at h
        · split at h
          · obtain ⟨l', b', k, h1, h2⟩ := andW_ok h
            have s1 := ih .args _ _ _ _ trivial h1
            have c1 := s1.cnt
            have hty : (ndk 6 (bt []) (x :: l')).tx := tx_ndk E (TxL.app (l := [x]) (TxL.one_ ht) s1.tx)
            have hcy : (ndk 6 (bt []) (x :: l')).cnt = 1 + (x.cnt + cntL l') := by rw [cnt_ndk]; simp [cntL]
            have := ih (.postL (ndk 6 (bt []) (x :: l')) false) _ _ _ _ hty h2
            refine ⟨?_, this.tx, fun _ => this.one rfl⟩
            have c2 := this.cnt
            simp only [cntJob, hcy] at c1 c2 ⊢
            omega
          · injection h with h; cases h
        · injection h with h
          injection h with e1 e2 e3
          subst e1 e3
          exact ⟨by simp only [cntJob, cntL_one]; omega, TxL.one_ ht, fun _ => rfl⟩
    | called kk =>
      rw [P] at h
      cases hn : nameW ws i with
      | none => rw [hn] at h; injection h with h; cases h
      | some t =>
        rw [hn] at h
        try simp only at h
        split at h
        · obtain ⟨l', b', k, h1, h2⟩ := andW_ok h
          have s1 := ih .args _ _ _ _ trivial h1
          have c1 := s1.cnt
          injection h2 with h2
          injection h2 with e1 e2 e3
          subst e1 e3
          refine ⟨?_, TxL.one_ (tx_ndk (nameW_tx hw hn) s1.tx), fun _ => rfl⟩
          simp only [cntJob, cntL_one, cnt_ndk] at c1 ⊢
          omega
        · injection h with h; cases h
    | unit =>
      rw [P] at h
      split at h
      · obtain ⟨l', b', k, h1, h2⟩ := andW_ok h
        obtain ⟨c1, t1⟩ := (ih .expr _ _ _ _ trivial h1).hd rfl
        try simp only at h2
        split at h2
        · injection h2 with h2
          injection h2 with e1 e2 e3
          subst e1 e3
          refine ⟨?_, TxL.one_ t1, fun _ => rfl⟩
          simp only [cntJob, cntL_one] at c1 ⊢
          omega
        · injection h2 with h2; cases h2
      · injection h with h; cases h
    | atom =>
      rw [P] at h
      cases hn : numW ws i with
      | some t =>
        rw [hn] at h
        injection h with h
        injection h with e1 e2 e3
        subst e1 e3
        refine ⟨?_, TxL.one_ (tx_mk E (by simp) TxL.nil TxL.nil TxL.nil), fun _ => rfl⟩
        rw [cntL_one, Nd.cnt_eq]
        simp only [cntJob, Nd.subs, Nd.body, Nd.els, cntL]
        omega
      | none =>
        rw [hn] at h
        try simp only at h
        cases hm : nameW ws i with
        | some t =>
          rw [hm] at h
          try simp only at h
          split at h
          · have := ih (.called 5) _ _ _ _ trivial h
            exact ⟨this.cnt, this.tx, fun _ => this.one rfl⟩
          · injection h with h
            injection h with e1 e2 e3
            subst e1 e3
            refine ⟨?_, TxL.one_ (tx_ndk (nameW_tx hw hm) TxL.nil), fun _ => rfl⟩
            simp only [cntJob, cntL_one, cnt_ndk, cntL]
            omega
        | none =>
          rw [hm] at h
          try simp only at h
          have leaf : ∀ kk : Int, some (Out.ok [ndk kk (bt []) []] false (i + 1)) = some (.ok l b j) → Sz .atom i l j := fun kk h => by
            injection h with h
            injection h with e1 e2 e3
            subst e1 e3
            refine ⟨?_, TxL.one_ (tx_ndk E TxL.nil), fun _ => rfl⟩
            simp only [cntJob, cntL_one, cnt_ndk, cntL]
            omega
          have uni : ∀ kk : Int, (andW (P ws n .unit (i + 1)) fun l _ j => some (.ok [ndk kk (bt []) [hd1 l]] false j)) = some (.ok l b j) → Sz .atom i l j := fun kk h => by
            obtain ⟨l', b', k, h1, h2⟩ := andW_ok h
            obtain ⟨c1, t1⟩ := (ih .unit _ _ _ _ trivial h1).hd rfl
            injection h2 with h2
            injection h2 with e1 e2 e3
            subst e1 e3
            refine ⟨?_, TxL.one_ (tx_ndk E (TxL.one_ t1)), fun _ => rfl⟩
            simp only [cntJob, cntL_one, cnt_ndk] at c1 ⊢
            omega
          split at h
          · have := ih .unit _ _ _ _ trivial h
            exact ⟨this.cnt, this.tx, fun _ => this.one rfl⟩
          split at h
          · have := ih (.called 13) _ _ _ _ trivial h
            exact ⟨by have := this.cnt; simp only [cntJob] at this ⊢; omega, this.tx, fun _ => this.one rfl⟩
          split at h
          · exact uni 7 h
          split at h
          · exact uni 9 h
          split at h
          · exact leaf 11 h
          split at h
          · exact leaf 12 h
          split at h
          · cases hm2 : namesW ws (i + 1) with
            | inr k => rw [hm2] at h; injection h with h; cases h
            | inl p =>
              obtain ⟨ns, k0⟩ := p
              rw [hm2] at h
              try simp only at h
              obtain ⟨l', b', k, h1, h2⟩ := andW_ok h
              have s1 := ih .block _ _ _ _ trivial h1
              have c1 := s1.cnt
              injection h2 with h2
              injection h2 with e1 e2 e3
              subst e1 e3
              have hk0 : i + 1 ≤ k0 := by
                by_cases hi : i + 1 ≤ ws.length
                · have := namesW_good hi
                  rw [hm2] at this
                  simp only at this
                  omega
                · unfold namesW at hm2
                  split at hm2
                  · have := isW_lt ‹_›
                    omega
                  · cases hm2
              refine ⟨?_, TxL.one_ (tx_mk E (namesW_tx hw hm2) TxL.nil s1.tx TxL.nil), fun _ => rfl⟩
              rw [cntL_one, Nd.cnt_eq]
              simp only [cntJob, Nd.subs, Nd.body, Nd.els, cntL] at c1 ⊢
              omega
          · injection h with h; cases h
end

end Go.Proofs.YtchldahkcpbgcaaGreatDoor
