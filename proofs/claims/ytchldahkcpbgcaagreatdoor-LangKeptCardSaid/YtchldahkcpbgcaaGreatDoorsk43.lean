/- Texts of this seat, one behind the other: Owd, Owd2, EdtG, EdtE, EdtL, Rbl, EdtP, EdtS. -/
import Derived.Test.YtchldahkcpbgcaaGreatDoorsk41
import Derived.Test.YtchldahkcpbgcaaGreatDoorsk42
import Derived.Test.YtchldahkcpbgcaaGreatDoorsk25
import Derived.Test.YtchldahkcpbgcaaGreatDoorsk19
import Derived.Test.YtchldahkcpbgcaaGreatDoorsk23
import Derived.Laws.EntriesVeiled
namespace Go.Proofs.YtchldahkcpbgcaaGreatDoor
set_option linter.unusedVariables false

/- own: nodes in new memory. -/
section
open Go.RowKit
set_option linter.unusedSimpArgs false
def zRow (n : Nat) : List Value := (madeCells zeroN (n * 7)).toList
theorem zRow_len (n : Nat) : (zRow n).length = n * 7 := by unfold zRow; simp [size_madeCells]
def rowC (acc : List Nd) (hs : List HdN) (n : Nat) : List Value := flatN acc hs ++ (zRow n).drop (acc.length * 7)
theorem rowC_nil (n : Nat) : rowC [] [] n = zRow n := by simp [rowC, flatN]
theorem rowC_full {acc : List Nd} {hs : List HdN} : rowC acc hs acc.length = flatN acc hs := by
 unfold rowC
 rw [List.drop_of_length_le (by rw [zRow_len]; exact Nat.le_refl _), List.append_nil]
theorem set7 (pre D : List Value) (hD : 7 ≤ D.length) (p : Nat) (hp : pre.length = p) (v0 v1 v2 v3 v4 v5 v6 : Value) :
    (((((((pre ++ D).set p v0).set (p + 1) v1).set (p + 2) v2).set (p + 3) v3).set (p + 4) v4).set (p + 5) v5).set (p + 6) v6 = pre ++ ([v0, v1, v2, v3, v4, v5, v6] ++ D.drop 7) := by
  match D, hD with
  | d0 :: d1 :: d2 :: d3 :: d4 :: d5 :: d6 :: D, _ =>
    subst hp
    have h : ∀ (l : List Value) (j : Nat) (v : Value), (pre ++ l).set (pre.length + j) v = pre ++ l.set j v := fun l j v => by rw [List.set_append_right _ _ (by omega), Nat.add_sub_cancel_left]
    have h0 : ∀ (l : List Value) (v : Value), (pre ++ l).set pre.length v = pre ++ l.set 0 v := fun l v => h l 0 v
    rw [h0, h, h, h, h, h, h]
    rfl
theorem rowC_set {acc : List Nd} {hs : List HdN} {n : Nat} (hl : hs.length = acc.length) (hn : acc.length < n) (x : Nd) (h : HdN) (k : Nat) (hk : k = acc.length) :
  ((((((((rowC acc hs n).set (k * 7) (.int .u8 x.kind)).set (k * 7 + 1) (.string x.text)).set (k * 7 + 2) (.int .i64 x.num)).set (k * 7 + 3) (.slice h.As x.subs.length h.cs)).set (k * 7 + 4) (.slice h.Ap x.params.length h.cp)).set (k * 7 + 5) (.slice h.Ab x.body.length h.cb)).set (k * 7 + 6) (.slice h.Ae x.els.length h.ce)) = rowC (acc ++ [x]) (hs ++ [h]) n := by
 subst hk
 unfold rowC
 rw [set7 _ _ (by rw [List.length_drop, zRow_len]; omega) _ (flatN_len _ _ hl), flatN_app _ _ _ _ hl, List.drop_drop, List.length_append, List.length_singleton, List.append_assoc]
 have : acc.length * 7 + 7 = (acc.length + 1) * 7 := by omega
 rw [this]
theorem rowC_at {acc : List Nd} {hs : List HdN} {n : Nat} (hl : hs.length = acc.length) {j : Nat} (hj : j < n * 7) (hn : acc.length ≤ n) : ∃ u, (rowC acc hs n).toArray[j]? = some u := by
 have h : (rowC acc hs n).length = n * 7 := by
  unfold rowC
  rw [List.length_append, flatN_len _ _ hl, List.length_drop, zRow_len]
  omega
 exact ⟨(rowC acc hs n)[j], by rw [List.getElem?_toArray]; exact List.getElem?_eq_getElem (by omega)⟩
set_option maxRecDepth 100000 in
theorem wpList_makeNd {w : World} {ops : Array Oper} {rest : List Oper} {o : Oper} {a : Act} {Q : Exit → Act → World → Prop} (hg : o.guard = none) (l c : Operand) (t : TypeId) (ht : t = 43) (hop : o.op = Op.makeSlice t l c)
  (n : Nat) (hl : a.eval l = .int .i64 n) (hc : a.eval c = .int .i64 n) (hb : n ≤ 1000000000)
  (hK : ∀ w', Blk w' w.heap.size 46 (rowC [] [] n).toArray → Fr [] w w' → wpList Tryz.prog ops Q rest (a.put o.dst (.slice (some ⟨w.heap.size, 0, none⟩) n n)) w') : wpList Tryz.prog ops Q (o :: rest) a w := by
 subst ht
 obtain ⟨i, hi, hz, hsz, hby⟩ := info_parts elemNd.inf
 refine wpList_make_full w hg l c _ hop w.heap.size 46 i _ 7 elemNd.und hi hz hsz .i64 .i64 n n n hl hc rfl rfl (by rw [hby]; omega) (by unfold maxLen; omega) (Nat.le_refl _) fun w' h1 h2 => hK w' ?_ ((Fr.refl _ _).grown h2 (by simp))
 rcases h1.2 with ⟨he, _⟩ | ⟨g, cap, cur, he, _, hh, _, _, hsz, htk⟩
 ·simp at he
 ·injection he with e1 e2 e3
  injection e1 with e1
  injection e1 with e1
  subst e1 e3
  have hlen : cur.toList.length = n * 7 := by simpa using hsz
  rw [List.take_of_length_le (by omega)] at htk
  have : cur = (rowC [] [] n).toArray := by
   rw [rowC_nil]
   unfold zRow
   rw [← Array.toList_inj]
   rw [htk]
   rfl
  subst this
  exact hh
def RetNodes (w : World) (n : Nat) (l : List Nd) (en : Ending) (w' : World) : Prop := ∃ A c, en = .returned (.slice A l.length c) ∧ LN (Bel w) n w' A c l ∧ Fr [] w w'
def RetNode (w : World) (n : Nat) (x : Nd) (en : Ending) (w' : World) : Prop := ∃ h, en = .returned (.agg (ndCells x h)) ∧ NdH (Bel w) n w' h x ∧ Fr [] w w'
mutual
def Nd.pp : Nd → Prop
 | .mk k t m s p b e => p.length ≤ 1000000000 ∧ ppL s ∧ ppL b ∧ ppL e
def ppL : List Nd → Prop
 | [] => True
 | x :: l => x.pp ∧ ppL l
end
theorem Nd.pp_eq (x : Nd) : x.pp = (x.params.length ≤ 1000000000 ∧ ppL x.subs ∧ ppL x.body ∧ ppL x.els) := by
 cases x
 rw [Nd.pp]
 rfl
theorem ppL_mem {l : List Nd} (h : ppL l) : ∀ x ∈ l, x.pp := by
  induction l with
  | nil => intro x hx; cases hx
  | cons y l ih =>
    intro x hx
    rw [ppL] at h
    rcases List.mem_cons.1 hx with rfl | hx
    · exact h.1
    · exact ih h.2 x hx
def OwnOk (n : Nat) : Prop := ∀ (S : Nat → Prop) (A : Option Addr) (c : Nat) (l : List Nd) (w : World), LN S n w A c l → cntL l ≤ 1000000000 → ppL l → Calls Tryz.prog 149 #[.slice A l.length c] w (RetNodes w n l)
def OwdOk (n : Nat) : Prop := ∀ (S : Nat → Prop) (h : HdN) (x : Nd) (w : World), NdH S n w h x → x.cnt ≤ 1000000000 → x.pp → Calls Tryz.prog 97 #[.agg (ndCells x h)] w (RetNode w n x)
theorem flatN_cell {acc : List Nd} {hs : List HdN} {w : World} {g : Nat} {t : TypeId} (hl : hs.length = acc.length) (hB : Blk w g t (flatN acc hs).toArray) {k : Nat} {x : Nd} {h : HdN} (hx : acc[k]? = some x) (hh : hs[k]? = some h) : NdAt w g (0 + k * 7) x h := by
 have hj : ∀ j, j < 7 → ∀ u, (ndL x h)[j]? = some u → w.cell? ⟨g, k * 7 + j, none⟩ = some u := fun j hj u hu => hB.cell (k * 7 + j) (by rw [List.getElem?_toArray, flatN_at _ _ k j x h hx hh hj]; exact hu)
 rw [Nat.zero_add]
 exact ⟨hj 0 (by omega) _ rfl, hj 1 (by omega) _ rfl, hj 2 (by omega) _ rfl, hj 3 (by omega) _ rfl, hj 4 (by omega) _ rfl, hj 5 (by omega) _ rfl, hj 6 (by omega) _ rfl⟩
theorem fr7 {S : List Nat} {w w1 : World} (h : Fr S w w1) {g : Nat} (hg : g ∈ S ∨ w.heap.size ≤ g) (i0 i1 i2 i3 i4 i5 i6 : Nat) (a0 a1 a2 a3 a4 a5 a6 : Value) :
  Fr S w (((((((w1.setCell ⟨g, i0, none⟩ a0).setCell ⟨g, i1, none⟩ a1).setCell ⟨g, i2, none⟩ a2).setCell ⟨g, i3, none⟩ a3).setCell ⟨g, i4, none⟩ a4).setCell ⟨g, i5, none⟩ a5).setCell ⟨g, i6, none⟩ a6) :=
 ((((((h.setCell (p := ⟨g, i0, none⟩) hg _).setCell (p := ⟨g, i1, none⟩) hg _).setCell (p := ⟨g, i2, none⟩) hg _).setCell (p := ⟨g, i3, none⟩) hg _).setCell (p := ⟨g, i4, none⟩) hg _).setCell (p := ⟨g, i5, none⟩) hg _).setCell (p := ⟨g, i6, none⟩) hg _
set_option maxHeartbeats 3200000 in
set_option maxRecDepth 20000 in
theorem own_step (n : Nat) (hO : OwdOk n) : OwnOk (n + 1) := by
 intro S A c l w h hcnt hpp
 have hl1 := h.len
 by_cases h0 : l = []
 ·subst h0
  go_enter Tryz.func149, Tryz.ntmps149
  go_wp2
  go_ret
  exact ⟨none, 0, rfl, LN.nil0 _ _ _ _, Fr.refl _ _⟩
 ·have hpos : 0 < l.length := List.length_pos_iff.2 h0
  have hne : ((l.length : Int) == 0) = false := by simp; omega
  have hln : l.length ≤ 1000000000 := by
   have : ∀ l : List Nd, l.length ≤ cntL l := fun l => by
    induction l with
    | nil => simp [cntL]
    | cons y l ih => have := Nd.cnt_eq y; simp [cntL]; omega
   have := this l
   omega
  clear h0
  go_enter Tryz.func149, Tryz.ntmps149
  go_upto_region 4 with (refine wpList_makeNd rfl _ _ _ rfl rfl l.length rfl rfl hln ?_; intro w4 hB4 hf4)
  obtain ⟨gb, hgb⟩ : ∃ g, g = w.heap.size := ⟨_, rfl⟩
  rw [← hgb] at hB4 ⊢
  have hgw : w.heap.size ≤ gb := by omega
  have HGB := Lib.hid hgb
  clear hgb
  go_wp2
  go_loopw [14] (fun i wr => ∃ k : Nat, k ≤ l.length ∧ i = .int .i64 k ∧ ∃ hs : List HdN, Hid (hs.length = k) ∧ Blk wr gb 46 (rowC (l.take k) hs l.length).toArray ∧ Hid (∀ (j : Nat) (x : Nd) (hd : HdN), (l.take k)[j]? = some x → hs[j]? = some hd → NdH (fun b => b < w.heap.size ∨ b = gb) n wr hd x) ∧ Fr [] w wr) (fun i _ => l.length - (intOf i).toNat)
  case atStart => exact ⟨0, Nat.zero_le _, rfl, [], rfl, hB4, Lib.hid (fun j x hd h1 => by simp at h1), hf4⟩
  case round =>
   obtain ⟨k, hk, rfl, hs, HL, hB, HH, hf⟩ := hrel
   clear hB4 hf4
   by_cases hlt : k < l.length
   ·obtain ⟨kb, off, x, hd, rfl, hx, hN, hH, _⟩ := h.at_ hlt
    have hcx := cntL_mem (List.mem_of_getElem? hx.out)
    have hN2 := hN.fr0 hf
    have hl2 : hs.length = (l.take k).length := by rw [HL.out, List.length_take]; omega
    obtain ⟨u0, e0⟩ := rowC_at (n := l.length) hl2 (j := k * 7) (by omega) (by rw [List.length_take]; omega)
    obtain ⟨u1, e1⟩ := rowC_at (n := l.length) hl2 (j := k * 7 + 1) (by omega) (by rw [List.length_take]; omega)
    obtain ⟨u2, e2⟩ := rowC_at (n := l.length) hl2 (j := k * 7 + 2) (by omega) (by rw [List.length_take]; omega)
    obtain ⟨u3, e3⟩ := rowC_at (n := l.length) hl2 (j := k * 7 + 3) (by omega) (by rw [List.length_take]; omega)
    obtain ⟨u4, e4⟩ := rowC_at (n := l.length) hl2 (j := k * 7 + 4) (by omega) (by rw [List.length_take]; omega)
    obtain ⟨u5, e5⟩ := rowC_at (n := l.length) hl2 (j := k * 7 + 5) (by omega) (by rw [List.length_take]; omega)
    obtain ⟨u6, e6⟩ := rowC_at (n := l.length) hl2 (j := k * 7 + 6) (by omega) (by rw [List.length_take]; omega)
    have HL2 := Lib.hid hl2
    clear hl2
    obtain ⟨c0, c1, c2, c3, c4, c5, c6⟩ := hN2
    obtain ⟨bx, hbx⟩ : ∃ g, g = wr.heap.size := ⟨_, rfl⟩
    go_upto_region 7 with fail
    rw [← hbx]
    refine wp_hide (fun M hM => ?_)
    have hfM : Fr [] wr M := by rw [hM]; exact frx
    have hBx : Blk M bx 46 (ndCells x hd) := by rw [hM]; exact Blk.new _ _ _ _ hbx
    have hwM := hf.trans hfM
    have hBM := hB.fr hfM (by simp)
    have HO := Lib.hid (hO S hd x M (hH.fr0 hwM) (by omega) (ppL_mem hpp x (List.mem_of_getElem? hx.out)))
    have hsz := hwM.size
    have hgM := hBM.lt
    clear hM hbx c0 c1 c2 c3 c4 c5 c6 hN
    obtain ⟨c0, c1, c2, c3, c4, c5, c6⟩ := hBx.cs
    go_wp2_with fail
    refine HO.out.mono ?_
    rintro e w5 ⟨h5, rfl, hx5, hf5⟩
    have hB5 := hBM.fr hf5 (by simp)
    have q0 : w5.cell? ⟨gb, k * 7, none⟩ = some u0 := hB5.cell _ e0
    have q1 : w5.cell? ⟨gb, k * 7 + 1, none⟩ = some u1 := hB5.cell _ e1
    have q2 : w5.cell? ⟨gb, k * 7 + 2, none⟩ = some u2 := hB5.cell _ e2
    have q3 : w5.cell? ⟨gb, k * 7 + 3, none⟩ = some u3 := hB5.cell _ e3
    have q4 : w5.cell? ⟨gb, k * 7 + 4, none⟩ = some u4 := hB5.cell _ e4
    have q5 : w5.cell? ⟨gb, k * 7 + 5, none⟩ = some u5 := hB5.cell _ e5
    have q6 : w5.cell? ⟨gb, k * 7 + 6, none⟩ = some u6 := hB5.cell _ e6
    have z0 := hB5.frozen (k * 7)
    have z1 := hB5.frozen (k * 7 + 1)
    have z2 := hB5.frozen (k * 7 + 2)
    have z3 := hB5.frozen (k * 7 + 3)
    have z4 := hB5.frozen (k * 7 + 4)
    have z5 := hB5.frozen (k * 7 + 5)
    have z6 := hB5.frozen (k * 7 + 6)
    have HB5 := Lib.hid hB5
    have hf5w := hwM.trans hf5
    have HX5 := Lib.hid hx5
    have HF5 := Lib.hid (hfM.trans hf5)
    clear e0 e1 e2 e3 e4 e5 e6 hB5 hBM hBx hB HO hH hfM hwM hx5 c0 c1 c2 c3 c4 c5 c6
    go_upto_region 8 with fail
    refine wp_hide (fun M6 hM6 => ?_)
    have hlk : (l.take k).length = k := by rw [List.length_take]; omega
    have hB6 : Blk M6 gb 46 (rowC (l.take (k + 1)) (hs ++ [h5]) l.length).toArray := by
     rw [hM6, take_at hx, ← rowC_set HL2.out (by omega) x h5 k hlk.symm]
     have := ((((((HB5.out.set_ (k * 7) (.int .u8 x.kind)).set_ (k * 7 + 1) (.string x.text)).set_ (k * 7 + 2) (.int .i64 x.num)).set_ (k * 7 + 3) (.slice h5.As x.subs.length h5.cs)).set_ (k * 7 + 4) (.slice h5.Ap x.params.length h5.cp)).set_ (k * 7 + 5) (.slice h5.Ab x.body.length h5.cb)).set_ (k * 7 + 6) (.slice h5.Ae x.els.length h5.ce)
     simp only [lA] at this
     exact this
    have hf6 : Fr [gb] w5 M6 := by rw [hM6]; exact fr7 (Fr.refl _ _) (.inl (by simp)) _ _ _ _ _ _ _ _ _ _ _ _ _ _
    have hw6 : Fr [] w M6 := hf5w.trans2 hf6 (fun b hb => .inr (by simp at hb; omega))
    have HL6 : Hid ((hs ++ [h5]).length = k + 1) := Lib.hid (by rw [List.length_append, HL.out]; rfl)
    have HH6 : Hid (∀ (j : Nat) (x : Nd) (hd : HdN), (l.take (k + 1))[j]? = some x → (hs ++ [h5])[j]? = some hd → NdH (fun b => b < w.heap.size ∨ b = gb) n M6 hd x) := Lib.hid fun j y hd hj1 hj2 => by
     rw [take_at hx] at hj1
     rcases Nat.lt_or_ge j k with h1 | h1
     ·rw [List.getElem?_append_left (by omega)] at hj1
      rw [List.getElem?_append_left (by rw [HL.out]; exact h1)] at hj2
      exact ((HH.out j y hd hj1 hj2).fr0 HF5.out).fr hf6 (fun b hb => .inr (by simpa using hb))
     ·rw [List.getElem?_append_right (by omega)] at hj1
      rw [List.getElem?_append_right (by rw [HL.out]; exact h1), HL.out] at hj2
      have hz : j - k = 0 := by
       have := (List.getElem?_eq_some_iff.1 hj2).1
       simp at this
       omega
      rw [hlk, hz] at hj1
      rw [hz] at hj2
      simp at hj1 hj2
      subst hj1 hj2
      refine (HX5.out.sub (fun b hb hs => ?_)).fr hf6 (fun b hb => .inr (by simpa using hb))
      show b < M.heap.size
      rcases hs with h2 | h2 <;> omega
    clear hM6 hlk HH HL HB5 HX5 HF5 HL2 hf6 q0 q1 q2 q3 q4 q5 q6 z0 z1 z2 z3 z4 z5 z6
    go_wp2
    go_roundw
    case rel => exact ⟨k + 1, by omega, by go_num, _, HL6, hB6, HH6, hw6⟩
    case measure => simp [intOf]; omega
   ·have hkl : k = l.length := by omega
    subst hkl
    rw [List.take_length] at hB HH
    rw [rowC_full] at hB
    have HR : Hid (LN (Bel w) (n + 1) wr (some ⟨gb, 0, none⟩) l.length l) := Lib.hid ⟨Nat.le_refl _, by unfold maxLen; omega, fun _ => ⟨gb, 0, rfl, (show ¬ gb < w.heap.size by omega), fun j x hx => by
     have hjl : j < hs.length := by rw [HL.out]; exact (List.getElem?_eq_some_iff.1 hx).1
     have hh := List.getElem?_eq_getElem hjl
     have hx2 := (HH.out j x _ hx hh).sub (S' := Bel w) fun b _ hb => .inl hb
     exact ⟨hs[j], flatN_cell HL.out hB hx hh, hx2.ok, hx2.subs, hx2.params, hx2.body, hx2.els⟩⟩⟩
    clear HH hB
    go_wp2
    go_ret
    exact ⟨_, _, rfl, HR.out, hf⟩
end

/- owned (printed by gen/owd2.py). -/
section
open Go.RowKit
set_option linter.unusedSimpArgs false
def RetNames (w : World) (l : List ByteArray) (en : Ending) (w' : World) : Prop := ∃ A c, en = .returned (.slice A l.length c) ∧ RdS (Bel w) w' .string A c l ∧ Fr [] w w'
theorem eql_slice_nil {P : Program} (w : World) (t : TypeId) {e : TypeId} (h : P.underlying t = some (.slice e)) (a : Option Addr) (l c : Nat) : (binOp .eql t (.slice a l c) (.slice none 0 0)).run P w = .ok (.bool a.isNone) w := by
 have e1 : ∀ d, (Op.equalIn (d + 1) t (.slice a l c) (.slice none 0 0)).run P w = .ok a.isNone w := fun d => by cases a <;> simp [Op.equalIn, run_underlying h]
 have e2 : (Op.equal t (.slice a l c) (.slice none 0 0)).run P w = .ok a.isNone w := e1 9999
 simp only [binOp]
 simp [e2]
set_option maxHeartbeats 1600000 in
set_option maxRecDepth 100000 in
theorem clone_any {A : Option Addr} {c : Nat} {l : List ByteArray} {w : World} (h : Rd w .string A c l) (hl : l.length ≤ 1000000000) : Calls Tryz.prog 131 #[.slice A l.length c] w (RetNames w l) := by
  have en : ∀ (W : World) (a : Option Addr) (l c : Nat), (binOp .eql 44 (.slice a l c) (.slice none 0 0)).run Tryz.prog W = .ok (.bool a.isNone) W := fun W => eql_slice_nil W _ Tryz.underlying44
  cases A with
  | none =>
    have h0 : l = [] := by
      rcases Nat.eq_zero_or_pos l.length with h1 | h1
      · exact List.eq_nil_of_length_eq_zero h1
      · obtain ⟨b, off, hA, _⟩ := h.at0 h1
        cases hA
    subst h0
    go_enter Tryz.func131, Tryz.ntmps131
    go_wp2
    go_ret
    exact ⟨none, 0, rfl, RdS.nil0 _ _ _, frx⟩
  | some a =>
    go_enter Tryz.func131, Tryz.ntmps131
    go_wp2_with (at_builtin; refine wpList_append_rd rfl (.tmp 5) (.tmp 6) _ rfl elemStN _ _ rfl (own_empty _ _ w.heap.size (by simp)) (some a) c l .string rfl (h.alloc _) (fun _ => rfl) (by omega) (by simp) ?_; intro A2 c2 w2 ho2 hg2 hat2)
    go_ret
    have ho3 : w2.ownsRow w.heap.size 9 1 (.slice A2 l.length c2) l.length (l.map .string) := by simpa using ho2
    refine ⟨A2, c2, by simp, ⟨own_rd ho3 rfl rfl, fun _ a ha => ?_⟩, (Fr.app ((Fr.refl [] w).alloc _) (own_empty _ _ w.heap.size (by simp)) (Nat.le_refl _) hg2)⟩
    exact fun hb => own_apart ho3 (bp := a.block) hb a ha rfl
section
variable {w w1 w2 w3 : World} {n : Nat}
theorem Fr.sz {Z : List Nat} {a b : World} (h : Fr Z a b) : a.heap.size ≤ b.heap.size := h.size
end
set_option maxHeartbeats 6400000 in
set_option maxRecDepth 20000 in
theorem owned_step (n : Nat) (hO : OwnOk n) : OwdOk n := by
 intro S ⟨As, cs, Ap, cp, Ab, cb, Ae, ce⟩ x w hH hcnt hpp
 rw [Nd.pp_eq] at hpp
 obtain ⟨hpl, hp1, hp2, hp3⟩ := hpp
 have hce := Nd.cnt_eq x
 obtain ⟨bx, hbx⟩ : ∃ g, g = w.heap.size := ⟨_, rfl⟩
 obtain ⟨W, hW⟩ : ∃ W, W = (w.alloc (.cells (ndCells x ⟨As, cs, Ap, cp, Ab, cb, Ae, ce⟩) 46)).alloc (.cells zeroN 46) := ⟨_, rfl⟩
 have hf0 : Fr [] w W := by rw [hW]; exact frx
 have hB : Blk W bx 46 (ndCells x ⟨As, cs, Ap, cp, Ab, cb, Ae, ce⟩) := by rw [hW]; exact (Blk.new _ _ _ _ hbx).alloc _
 have hZ : Blk W (bx + 1) 46 zeroN := by rw [hW]; exact Blk.new _ _ _ _ (by simp [hbx])
 have HW := Lib.hid hW.symm
 have hbw : w.heap.size ≤ bx := by omega
 have HBX := Lib.hid hbx
 clear hW hbx
 have HS : Hid (∀ V, Fr [] W V → Calls Tryz.prog 149 #[.slice As x.subs.length cs] V (RetNodes V n x.subs)) := Lib.hid fun V hf => hO S As cs x.subs V (hH.subs.fr0 (hf0.trans hf)) (by omega) hp1
 have HD : Hid (∀ V, Fr [] W V → Calls Tryz.prog 149 #[.slice Ab x.body.length cb] V (RetNodes V n x.body)) := Lib.hid fun V hf => hO S Ab cb x.body V (hH.body.fr0 (hf0.trans hf)) (by omega) hp2
 have HE : Hid (∀ V, Fr [] W V → Calls Tryz.prog 149 #[.slice Ae x.els.length ce] V (RetNodes V n x.els)) := Lib.hid fun V hf => hO S Ae ce x.els V (hH.els.fr0 (hf0.trans hf)) (by omega) hp3
 have HP : Hid (∀ V, Fr [bx] W V → Calls Tryz.prog 131 #[.slice Ap x.params.length cp] V (RetNames V x.params)) := Lib.hid fun V hf => clone_any (hH.params.1.fr (S := [bx]) ((hf0.mono (by simp)).trans hf) (fun h0 a ha hm => by simp at hm; have := hH.params.lt h0 ha; omega)) hpl
 have hok := hH.ok
 clear hO hH
 have q3 : W.cell? ⟨bx, 3, none⟩ = some (.slice As x.subs.length cs) := hB.cell 3 rfl
 have q5 : W.cell? ⟨bx, 5, none⟩ = some (.slice Ab x.body.length cb) := hB.cell 5 rfl
 have q6 : W.cell? ⟨bx, 6, none⟩ = some (.slice Ae x.els.length ce) := hB.cell 6 rfl
 have hW0 : bx + 1 < W.heap.size := hZ.lt
 go_enter Tryz.func97, Tryz.ntmps97
 go_upto_region 1 with fail
 rw [← HBX.out, HW.out]
 clear HW HBX
 refine wp_region_P [10, 12, 14] (fun w' => Fr [] W w') ((Fr.refl _ _).drew) (by kernel_rfl) (fun hHeld => ?_)
 refine tkP 0 ?_ (y := fun w hSw => ?_) (h := ?_)
 rotate_left 1
 ·(try dsimp only at hSw)
  go_simp
  try with_reducible rfl
 try simp only [Act.put, lA, lZ, lS]
 refine tkP 1 ?_ (y := fun w hSw => ?_) (h := ?_)
 rotate_left 1
 ·(try dsimp only at hSw)
  have k3 := hSw.cell q3 (by simp)
  go_simp
  try with_reducible rfl
 try simp only [Act.put, lA, lZ, lS]
 refine tkP 3 ?_ (y := fun w hSw => ?_) (h := ?_)
 rotate_left 1
 ·(try dsimp only at hSw)
  go_simp
  try with_reducible rfl
 try simp only [Act.put, lA, lZ, lS]
 refine tkP 4 ?_ (y := fun w hSw => ?_) (h := ?_)
 rotate_left 1
 ·(try dsimp only at hSw)
  have k5 := hSw.cell q5 (by simp)
  go_simp
  try with_reducible rfl
 try simp only [Act.put, lA, lZ, lS]
 refine tkP 6 ?_ (y := fun w hSw => ?_) (h := ?_)
 rotate_left 1
 ·(try dsimp only at hSw)
  go_simp
  try with_reducible rfl
 try simp only [Act.put, lA, lZ, lS]
 refine tkP 7 ?_ (y := fun w hSw => ?_) (h := ?_)
 rotate_left 1
 ·(try dsimp only at hSw)
  have k6 := hSw.cell q6 (by simp)
  go_simp
  try with_reducible rfl
 try simp only [Act.put, lA, lZ, lS]
 refine wpAnyP_ready (rs := [2]) (by kernel_rfl) (by simp) ?_; refine AllReadyP.cons rfl (fun K hK => ?_) AllReadyP.nil; go_simp
 refine (HS.out _ ((Fr.refl _ _).drew)).mono ?_
 rintro e w1 ⟨AS, cS, rfl, hS, f1⟩
 have g1 := Fr.trans ((Fr.refl _ _).drew) f1
 refine Shut.on hK (g1) (fun hHeld2 => ?_); clear hK K hHeld; have hHeld := hHeld2; clear hHeld2; try simp only [Act.put, lA, lZ, lS]
 refine tkP 9 ?_ (y := fun w hSw => ?_) (h := ?_)
 rotate_left 1
 ·(try dsimp only at hSw)
  go_simp
  try with_reducible rfl
 try simp only [Act.put, lA, lZ, lS]
 refine wpAnyP_ready (rs := [5]) (by kernel_rfl) (by simp) ?_; refine AllReadyP.cons rfl (fun K hK => ?_) AllReadyP.nil; go_simp
 refine (HD.out _ (g1)).mono ?_
 rintro e w2 ⟨AD, cD, rfl, hD, f2⟩
 have g2 := Fr.trans (g1) f2
 refine Shut.on hK (g2) (fun hHeld2 => ?_); clear hK K hHeld; have hHeld := hHeld2; clear hHeld2; try simp only [Act.put, lA, lZ, lS]
 refine wpAnyP_ready (rs := [8]) (by kernel_rfl) (by simp) ?_; refine AllReadyP.cons rfl (fun K hK => ?_) AllReadyP.nil; go_simp
 refine (HE.out _ (g2)).mono ?_
 rintro e w3 ⟨AE, cE, rfl, hE, f3⟩
 have g3 := Fr.trans (g2) f3
 refine Shut.on hK (g3) (fun hHeld2 => ?_); clear hK K hHeld; have hHeld := hHeld2; clear hHeld2; try simp only [Act.put, lA, lZ, lS]
 have hB3 := hB.fr g3 (by simp)
 have p3 : w3.cell? ⟨bx, 3, none⟩ = some (.slice As x.subs.length cs) := hB3.cell 3 rfl
 have p5 : w3.cell? ⟨bx, 5, none⟩ = some (.slice Ab x.body.length cb) := hB3.cell 5 rfl
 have p6 : w3.cell? ⟨bx, 6, none⟩ = some (.slice Ae x.els.length ce) := hB3.cell 6 rfl
 have z3 := hB3.frozen 3
 have z5 := hB3.frozen 5
 have z6 := hB3.frozen 6
 refine wpAnyP_ready (rs := [10]) (by kernel_rfl) (by simp) ?_; refine AllReadyP.cons rfl (fun K hK => ?_) AllReadyP.nil; go_simp
 refine Shut.end_ hK ?_; clear hK K; try simp only [Act.put, lA, lZ, lS]
 refine wpAnyP_ready (rs := [11]) (by kernel_rfl) (by simp) ?_; refine AllReadyP.cons rfl (fun K hK => ?_) AllReadyP.nil; go_simp
 refine Shut.end_ hK ?_; clear hK K; try simp only [Act.put, lA, lZ, lS]
 refine wpAnyP_ready (rs := [12]) (by kernel_rfl) (by simp) ?_; refine AllReadyP.cons rfl (fun K hK => ?_) AllReadyP.nil; go_simp
 refine Shut.end_ hK ?_; clear hK K; try simp only [Act.put, lA, lZ, lS]
 refine wpAnyP_ready (rs := [13]) (by kernel_rfl) (by simp) ?_; refine AllReadyP.cons rfl (fun K hK => ?_) AllReadyP.nil; go_simp
 refine Shut.end_ hK ?_; clear hK K; try simp only [Act.put, lA, lZ, lS]
 refine wpAnyP_ready (rs := [14]) (by kernel_rfl) (by simp) ?_; refine AllReadyP.cons rfl (fun K hK => ?_) AllReadyP.nil; go_simp
 refine Shut.end_ hK ?_; clear hK K; try simp only [Act.put, lA, lZ, lS]
 refine wpAnyP_done (by kernel_rfl) ?_ _
 go_upto_region 2 with fail
 refine wp_hide (fun M hM => ?_)
 have hBM : Blk M bx 46 (ndCells x ⟨AS, cS, Ap, cp, AD, cD, AE, cE⟩) := by rw [hM]; simpa using ((hB3.set_ 3 (.slice AS x.subs.length cS)).set_ 5 (.slice AD x.body.length cD)).set_ 6 (.slice AE x.els.length cE)
 have fM : Fr [bx] w3 M := by rw [hM]; exact (((Fr.refl _ _).setCell (p := ⟨bx, 3, none⟩) (.inl (by simp)) _).setCell (p := ⟨bx, 5, none⟩) (.inl (by simp)) _).setCell (p := ⟨bx, 6, none⟩) (.inl (by simp)) _
 have hZM := hZ.fr ((g3.mono (by simp)).trans fM) (by simp)
 have s1 := f1.size
 have s2 := f2.size
 have s3 := f3.size
 have sW := hf0.size
 have sg := g3.size
 have hdr : W.drew.heap.size = W.heap.size := rfl
 have lS : LN (fun b => b < w.heap.size ∨ b = bx ∨ b = bx + 1) n M AS cS x.subs := ((hS.fr0 (f2.trans f3)).sub (S' := fun b => b < w.heap.size ∨ b = bx ∨ b = bx + 1) (fun b _ hb => by show b < _; rcases hb with h | h | h <;> omega)).fr fM (fun k hk => .inr (.inl (by simpa using hk)))
 have lD : LN (fun b => b < w.heap.size ∨ b = bx ∨ b = bx + 1) n M AD cD x.body := ((hD.fr0 f3).sub (S' := fun b => b < w.heap.size ∨ b = bx ∨ b = bx + 1) (fun b _ hb => by show b < _; rcases hb with h | h | h <;> omega)).fr fM (fun k hk => .inr (.inl (by simpa using hk)))
 have lE : LN (fun b => b < w.heap.size ∨ b = bx ∨ b = bx + 1) n M AE cE x.els := (hE.sub (S' := fun b => b < w.heap.size ∨ b = bx ∨ b = bx + 1) (fun b _ hb => by show b < _; rcases hb with h | h | h <;> omega)).fr fM (fun k hk => .inr (.inl (by simpa using hk)))
 have hgM : Fr [bx] W M := (g3.mono (by simp)).trans fM
 have HPM := Lib.hid (HP.out M hgM)
 have hsM := hgM.size
 clear hM hB3 hB hZ p3 p5 p6 z3 z5 z6 hS hD hE HS HD HE HP hHeld
 obtain ⟨c0, c1, c2, c3, c4, c5, c6⟩ := hBM.cs
 go_wp2_with fail
 refine HPM.out.mono ?_
 rintro e w6 ⟨AP, cP, rfl, hP, f6⟩
 have hB6 := hBM.fr f6 (by simp)
 have hZ6 := hZM.fr f6 (by simp)
 clear hBM hZM HPM c0 c1 c2 c3 c4 c5 c6
 obtain ⟨c0, c1, c2, c3, c4, c5, c6⟩ := hB6.cs
 have z4 := hB6.frozen 4
 go_upto_region 3 with fail
 refine wp_hide (fun M7 hM7 => ?_)
 have hB7 : Blk M7 bx 46 (ndCells x ⟨AS, cS, AP, cP, AD, cD, AE, cE⟩) := by rw [hM7]; simpa using hB6.set_ 4 (.slice AP x.params.length cP)
 have f7 : Fr [bx] w6 M7 := by rw [hM7]; exact (Fr.refl _ _).setCell (p := ⟨bx, 4, none⟩) (.inl (by simp)) _
 have hZ7 := hZ6.fr f7 (by simp)
 have g7 : Fr [bx] M M7 := (f6.mono (by simp)).trans f7
 have up : ∀ {A : Option Addr} {c : Nat} {l : List Nd}, LN (fun b => b < w.heap.size ∨ b = bx ∨ b = bx + 1) n M A c l → LN (fun b => b < w.heap.size ∨ b = bx ∨ b = bx + 1) n M7 A c l := fun h => h.fr g7 (fun k hk => .inr (.inl (by simpa using hk)))
 have hP7 : RdS (fun b => b < w.heap.size ∨ b = bx ∨ b = bx + 1) M7 .string AP cP x.params := ((hP.sub (S' := fun b => b < w.heap.size ∨ b = bx ∨ b = bx + 1) (fun b _ hb => by show b < _; rcases hb with h | h | h <;> omega)).fr f7 (fun k hk => .inr (.inl (by simpa using hk))))
 have s6 := f6.size
 have s7 := f7.size
 have hN7 : NdH (fun b => b < w.heap.size ∨ b = bx ∨ b = bx + 1) n M7 ⟨AS, cS, AP, cP, AD, cD, AE, cE⟩ x := ⟨hok, up lS, hP7, up lD, up lE⟩
 have hw7 : Fr [] w M7 := hf0.trans2 (hgM.trans g7) (fun b hb => .inr (by simp at hb; omega))
 clear hM7 lS lD lE up hP7 hP z4 c0 c1 c2 c3 c4 c5 c6 hB6 hZ6 f6 f7
 obtain ⟨c0, c1, c2, c3, c4, c5, c6⟩ := hB7.cs
 obtain ⟨e0, e1, e2, e3, e4, e5, e6⟩ := hZ7.es
 obtain ⟨z0, z1, z2, z3, z4, z5, z6⟩ := hZ7.fz
 have hne : bx ≠ bx + 1 := by omega
 go_wp2
 refine bodyPost_ret (results_node (x := x) (hd := ⟨AS, cS, AP, cP, AD, cD, AE, cE⟩) rfl _ _ (bx + 1) rfl (hZ7.node _ _ _ _ _ _ _)) rfl ?_
 have ff := fr_node (S := [bx + 1]) (g := bx + 1) (Fr.refl [bx + 1] M7) (.inl (by simp)) (.int .u8 x.kind) (.string x.text) (.int .i64 x.num) (.slice AS x.subs.length cS) (.slice AP x.params.length cP) (.slice AD x.body.length cD) (.slice AE x.els.length cE)
 exact ⟨_, rfl, (hN7.fr ff (fun k hk => .inr (.inr (by simpa using hk)))).sub (fun b _ hb => .inl hb), hw7.trans2 ff (fun b hb => .inr (by simp at hb; omega))⟩
theorem own_all : ∀ n, OwnOk n
 | 0 => fun _ _ _ _ _ h => absurd h id
 | n + 1 => own_step n (owned_step n (own_all n))
theorem owd_all (n : Nat) : OwdOk n := owned_step n (own_all n)
end

/- Rows of nodes that the editor gathers. -/
section
open Go.RowKit
set_option linter.unusedSimpArgs false
abbrev Bt (base t : Nat) : Nat → Prop := fun b => base ≤ b ∧ b < t
section
variable (k : Int) (t : ByteArray) (m : Int) (s : List Nd) (p : List ByteArray) (b e : List Nd)
theorem ndK : (Nd.mk k t m s p b e).kind = k := rfl
theorem ndT : (Nd.mk k t m s p b e).text = t := rfl
theorem ndM : (Nd.mk k t m s p b e).num = m := rfl
theorem ndS : (Nd.mk k t m s p b e).subs = s := rfl
theorem ndP : (Nd.mk k t m s p b e).params = p := rfl
theorem ndB : (Nd.mk k t m s p b e).body = b := rfl
theorem ndE : (Nd.mk k t m s p b e).els = e := rfl
end
section
variable {S : Nat → Prop} {n m base : Nat} {w w' : World} {A : Option Addr} {c : Nat} {acc : List Nd} {hs : List HdN}
theorem GNd.frR {Z : List Nat} (g : GNd S n base w A c acc hs) (hf : Fr Z w w') (hS : ∀ k ∈ Z, S k) (hZ : ∀ k ∈ Z, ¬ RowB A k) : GNd S n base w' A c acc hs :=
 ⟨g.len, own_fr g.own hf fun k hk hm => hZ k hm (by
  cases A with
  | none => simp [Value.ownBlock] at hk
  | some a => simp [Value.ownBlock] at hk; exact ⟨a, rfl, hk⟩), fun k x h e1 e2 => (g.at_ k x h e1 e2).fr hf (fun k hk => .inl (hS k hk))⟩
theorem GNd.ext (g : GNd S n base w A c acc hs) (hf : Fr [] w w') {X : Nat} (hX : w.heap.size ≤ X) : GNd (fun b => S b ∨ b = X) n base w' A c acc hs :=
 ⟨g.len, own_fr g.own hf (by simp), fun k x h e1 e2 => (g.at_ k x h e1 e2).imp (Nat.le_refl _) (fun j hj h1 h2 => h1 (by
  rcases h2 with (h3 | h3) | h3
  ·exact .inl h3
  ·omega
  ·exact .inr h3)) fun p u _ hu => hf.cell hu (by simp)⟩
theorem GNd.less {S' : Nat → Prop} (g : GNd S n base w A c acc hs) (h : ∀ k, S' k → S k) : GNd S' n base w A c acc hs :=
 ⟨g.len, g.own, fun k x hd e1 e2 => (g.at_ k x hd e1 e2).sub fun j _ hj => hj.imp (h j) id⟩
theorem GNd.row (g : GNd S n base w A c acc hs) {k : Nat} (h : RowB A k) : base ≤ k ∧ k < w.heap.size := by
 obtain ⟨a, rfl, rfl⟩ := h
 exact g.own.lt a.block rfl
end
end

/- The editor over expressions. -/
section
open Go.RowKit
set_option linter.unusedSimpArgs false
structure EdC (base : Nat) (w0 : World) (f : FuncId) (caps : Array Value) (nw K M : Nat) (ed : Nat → Nd → List Nd) : Prop where
 call : ∀ (V : World) (i m t : Nat) (x : Nd) (h : HdN), Below base w0 V → t ≤ V.heap.size → i < K → nw ≤ m → NdH (Bt base t) m V h x →
  Calls Tryz.prog f (#[.int .i64 i, .agg (ndCells x h)] ++ caps) V (fun en w' => ∃ B d, en = .returned (.slice B (ed i x).length d) ∧ LN (Bt base t) (m + 1) w' B d (ed i x) ∧ Fr [] V w')
 len : ∀ i x, (ed i x).length ≤ M
 enter : ∀ (args : Array Value) (w : World), (callFunc f args).run Tryz.prog w = .ok (.enter f args) w
 small : M ≤ 10000
abbrev edCells (i : Nat) (f : FuncId) (caps : Array Value) : Array Value := #[.int .i64 i, .func (.func f) #[] caps]
def RetEd (base eb : Nat) (f : FuncId) (caps : Array Value) (w : World) (m : Nat) (l : List Nd) (i : Nat) (en : Ending) (w' : World) : Prop :=
 ∃ A c, en = .returned (.slice A l.length c) ∧ LN (Bt base w.heap.size) m w' A c l ∧ Blk w' eb 205 (edCells i f caps) ∧ Fr [eb] w w'
def EdLOk (n : Nat) : Prop := ∀ (base eb : Nat) (w0 : World) (f : FuncId) (caps : Array Value) (nw K M : Nat) (ed : Nat → Nd → List Nd) (A : Option Addr) (c : Nat) (l : List Nd) (i : Nat) (w : World), EdC base w0 f caps nw K M ed → LN (upB base) n w A c l →
 Blk w eb 205 (edCells i f caps) → base ≤ eb → Below base w0 w → i + cntL l ≤ 1000000 → i + nuL l ≤ K → Calls Tryz.prog 150 #[.pointer (some ⟨eb, 0, none⟩), .slice A l.length c] w (RetEd base eb f caps w (n + nw) (edL ed l i) (i + nuL l))
def EdEOk (n : Nat) : Prop := ∀ (base eb : Nat) (w0 : World) (f : FuncId) (caps : Array Value) (nw K M : Nat) (ed : Nat → Nd → List Nd) (A : Option Addr) (c : Nat) (l : List Nd) (i : Nat) (w : World), EdC base w0 f caps nw K M ed → LN (upB base) n w A c l →
 Blk w eb 205 (edCells i f caps) → base ≤ eb → Below base w0 w → i + cntL l ≤ 1000000 → i + nuE l ≤ K → Calls Tryz.prog 195 #[.pointer (some ⟨eb, 0, none⟩), .slice A l.length c] w (RetEd base eb f caps w (n + nw) (edE ed l i) (i + nuE l))
section
variable {base : Nat} {w w' : World}
theorem Fr.belb {Z : List Nat} (h : Fr Z w w') (hZ : ∀ k ∈ Z, base ≤ k) (hB : base ≤ w.heap.size) : Below base w w' := h.belowB hZ hB
theorem LN.upb {n c : Nat} {A : Option Addr} {l : List Nd} {Z : List Nat} (h : LN (upB base) n w A c l) (hf : Fr Z w w') (hZ : ∀ k ∈ Z, base ≤ k) : LN (upB base) n w' A c l := h.fr hf hZ
theorem NdH.upb {n : Nat} {h : HdN} {x : Nd} {Z : List Nat} (hx : NdH (upB base) n w h x) (hf : Fr Z w w') (hZ : ∀ k ∈ Z, base ≤ k) : NdH (upB base) n w' h x := hx.fr hf hZ
end
theorem edE_snoc {ed : Nat → Nd → List Nd} {l : List Nd} {k i : Nat} {x : Nd} (h : Hid (l[k]? = some x)) : edE ed (l.take (k + 1)) i = edE ed (l.take k) i ++ [x.edX ed (i + nuE (l.take k))] ∧ nuE (l.take (k + 1)) = nuE (l.take k) + x.nuX := by
 rw [take_at h, edE_app, nuE_app]
 simp [edE, nuE]
theorem lenCnt (l : List Nd) : l.length ≤ cntL l := by
 induction l with
 | nil => exact Nat.zero_le _
 | cons y l ih => have := Nd.cnt_eq y; rw [List.length_cons, cntL]; omega
theorem nuE_take_le {l : List Nd} (k : Nat) : nuE (l.take k) ≤ nuE l := by
 conv => rhs; rw [← List.take_append_drop k l, nuE_app]
 omega
theorem nuL_take_le {l : List Nd} (k : Nat) : nuL (l.take k) ≤ nuL l := by
 conv => rhs; rw [← List.take_append_drop k l, nuL_app]
 omega
theorem cntL_ap (l m : List Nd) : cntL (l ++ m) = cntL l + cntL m := by
 induction l with
 | nil => rw [List.nil_append, cntL, Nat.zero_add]
 | cons x l ih => rw [List.cons_append, cntL, cntL, ih, Nat.add_assoc]
theorem cntL_tk {l : List Nd} {k : Nat} {x : Nd} (h : Hid (l[k]? = some x)) : cntL (l.take k) + x.cnt ≤ cntL l := by
 conv => rhs; rw [← List.take_append_drop k l, cntL_ap, drop_at h, cntL]
 omega
set_option maxHeartbeats 6400000 in
set_option maxRecDepth 20000 in
theorem edE_step (n : Nat) (hE : EdEOk n) (hL : EdLOk n) : EdEOk (n + 1) := by
  intro base eb w0 f caps nw K M_ ed A c l i w hC h hB hbe hb0 hcnt hK
  have hl1 := h.len
  have hlt0 := hB.lt
  go_enter Tryz.func195, Tryz.ntmps195
  go_wp2
  go_loopw [5, 10] (fun v j wr => ∃ k : Nat, k ≤ l.length ∧ j = .int .i64 k ∧ ∃ B d hs, v = .slice B (edE ed (l.take k) i).length d ∧ GNd (Bt base w.heap.size) (n + nw) w.heap.size wr B d (edE ed (l.take k) i) hs ∧ Blk wr eb 205 (edCells (i + nuE (l.take k)) f caps) ∧ Fr [eb] w wr) (fun _ j _ => l.length - (intOf j).toNat)
  case atStart => exact ⟨0, Nat.zero_le _, rfl, none, 0, [], by simp [edE], by simpa [edE] using GNd.nil _ _ _ _, by simpa [nuE] using hB, Fr.refl _ _⟩
  case round =>
    obtain ⟨k, hk, rfl, B, d, hs, rfl, hG, hBr, hf⟩ := hrel
    by_cases hlt : k < l.length
    rotate_left 1
    · rw [List.take_of_length_le (by omega)] at hG hBr
      have HR := Lib.hid (hG.ln (fun b hb hs => by have := hs.2; omega))
      have hlen := edE_len ed l i
      rw [List.take_of_length_le (by omega)]
      go_wp2
      go_ret
      exact ⟨_, _, rfl, by rw [Nat.add_right_comm]; exact HR.out, hBr, hf⟩
    obtain ⟨kb, off, x, ⟨As, cs, Ap, cp, Ab, cb, Ae, ce⟩, rfl, hx, hN, hH, hkb⟩ := h.at_ hlt
    have hkB : kb < base := Nat.lt_of_not_le hkb
    have hcx := cntL_tk hx
    have hce := Nd.cnt_eq x
    have hne := Nd.nuX_eq x
    have hnk := nuE_take_le (l := l) (k + 1)
    have hnl : nuE (l.take k) ≤ cntL (l.take k) := nuE_le _
    obtain ⟨es1, es2⟩ := edE_snoc (ed := ed) (i := i) hx
    rw [es2] at hnk
    have hal : (edE ed (l.take k) i).length = k := by rw [edE_len, List.length_take]; omega
    have HAL := Lib.hid hal
    have HS1 := Lib.hid es1
    have HS2 : Hid (i + nuE (l.take (k + 1)) = i + nuE (l.take k) + x.nuX) := Lib.hid (by rw [es2]; omega)
    have hbw : base ≤ w.heap.size := by omega
    have hll : l.length ≤ cntL l := lenCnt l
    have hb1 := hb0.trans (hf.belb (base := base) (by simp; exact hbe) hbw)
    have hsz := hf.size
    obtain ⟨c0, c1, c2, c3, c4, c5, c6⟩ := hN.fr hf (by simp; omega)
    have hHr := hH.upb hf (by simp; exact hbe)
    clear es1 es2 hN hH hal
    obtain ⟨j, hj⟩ : ∃ j, j = i + nuE (l.take k) := ⟨_, rfl⟩
    rw [← hj] at hBr HS1 HS2
    have hjc : j + x.cnt ≤ 1000000 := by omega
    have hjK : j + x.nuX ≤ K := by omega
    clear hj hnl hcx hnk
    generalize edE ed (l.take k) i = acc at *
    obtain ⟨bx, hbx⟩ : ∃ g, g = wr.heap.size := ⟨_, rfl⟩
    go_upto_region 5 with fail
    rw [← hbx]
    refine wp_hide (fun M hM => ?_)
    have hfM : Fr [] wr M := by rw [hM]; exact frx
    have hBx : Blk M bx 46 (ndCells x ⟨As, cs, Ap, cp, Ab, cb, Ae, ce⟩) := by rw [hM]; exact Blk.new _ _ _ _ hbx
    have hBM := hBr.fr hfM (by simp)
    have hGM := hG.ext hfM (X := bx) (by omega)
    have hHM := hHr.upb hfM (by simp)
    have hbM := hb1.trans (hfM.belb (base := base) (by simp) (by omega))
    have hwM := hf.trans (hfM.mono (by simp))
    have hltx := hBx.lt
    have hMs : M.heap.size = bx + 1 := by rw [hM, hbx]; simp
    have hbxw : w.heap.size ≤ bx := by omega
    have hebx : eb < w.heap.size := hlt0
    have hrow : ∀ b, RowB B b → w.heap.size ≤ b ∧ b < bx := fun b hb => by have := hG.row hb; omega
    clear hM hbx hBr hG hHr hb1 hf hfM c0 c1 c2 c3 c4 c5 c6
    obtain ⟨c0, c1, c2, c3, c4, c5, c6⟩ := hBx.cs
    dsimp only at c3 c4 c5 c6
    have HEX := Lib.hid (hE base eb w0 f caps nw K M_ ed As cs x.subs j M hC hHM.subs hBM hbe hbM (by omega) (by omega))
    have HEL := Lib.hid (edE_len ed x.subs j)
    go_wp2_with fail
    refine HEX.out.mono ?_
    rintro e w1 ⟨A1, c1', rfl, hL1, hB1, hf1⟩
    have hBx1 := hBx.fr hf1 (by simp; omega)
    obtain ⟨z0, z1, z2, z3, z4, z5, z6⟩ := hBx1.fz
    clear c0 c1 c2 c3 c4 c5 c6 HEX
    obtain ⟨c0, c1, c2, c3, c4, c5, c6⟩ := hBx1.cs
    dsimp only at c3 c4 c5 c6
    go_upto_region 6 with fail
    refine wp_hide (fun M1 hM1 => ?_)
    have hBx2 : Blk M1 bx 46 (ndCells (.mk x.kind x.text x.num (edE ed x.subs j) x.params x.body x.els) ⟨A1, c1', Ap, cp, Ab, cb, Ae, ce⟩) := by rw [hM1]; simpa [ndCells, ndK, ndT, ndM, ndS, ndP, ndB, ndE] using hBx1.set_ 3 (.slice A1 (edE ed x.subs j).length c1')
    have hf2 : Fr [bx] w1 M1 := by rw [hM1]; exact (Fr.refl _ _).setCell (p := ⟨bx, 3, none⟩) (.inl (by simp)) _
    have hs1 := hf1.size
    have hs2 := hf2.size
    have hbbx : base ≤ bx := by omega
    have hBe1 := hB1.fr hf2 (by simp; omega)
    have hG1 := (hGM.frR hf1 (fun b hb => .inl (by simp at hb; exact ⟨by omega, by omega⟩)) (fun b hb hr => by simp at hb; have := hrow _ hr; omega)).frR hf2 (fun b hb => .inr (by simpa using hb)) (fun b hb hr => by simp at hb; have := hrow _ hr; omega)
    have hw1 : Fr [eb] w M1 := (hwM.trans hf1).trans2 hf2 (fun b hb => .inr (by simp at hb; omega))
    have hb1 := (hbM.trans (hf1.belb (base := base) (by simp; exact hbe) (by omega))).trans (hf2.belb (base := base) (by simp; exact hbbx) (by omega))
    have hH1 := (hHM.upb hf1 (by simp; exact hbe)).upb hf2 (by simp; exact hbbx)
    rw [hMs] at hL1
    have hL2 := hL1.fr hf2 (fun b hb => by simp at hb; exact ⟨by omega, by omega⟩)
    have hup : ∀ {A : Option Addr} {c : Nat} {l : List Nd} {V : World}, LN (upB base) n V A c l → LN (Bt base (bx + 1)) (n + nw) V A c l := fun h => (h.sub (fun b _ hb => hb.1)).mono (Nat.le_add_right _ _)
    have hN1 : NdH (Bt base (bx + 1)) (n + nw) M1 ⟨A1, c1', Ap, cp, Ab, cb, Ae, ce⟩ (.mk x.kind x.text x.num (edE ed x.subs j) x.params x.body x.els) := ⟨hH1.ok, hL2, hH1.params.sub (fun b _ hb => hb.1), hup hH1.body, hup hH1.els⟩
    clear hM1 hBx1 hf1 hf2 hB1 hGM hL1 hHM hBM z0 z1 z2 z3 z4 z5 z6 c0 c1 c2 c3 c4 c5 c6 hwM hbM
    obtain ⟨c0, c1, c2, c3, c4, c5, c6⟩ := hBx2.cs
    dsimp only [ndK, ndT, ndM, ndS, ndP, ndB, ndE] at c0 c1 c2 c3 c4 c5 c6
    rcases Classical.em (x.kind = 10) with h10 | h10
    case' inl =>
      have HK := Lib.hid h10
      rw [if_pos h10] at hne
      have HLX := Lib.hid (hL base eb w0 f caps nw K M_ ed Ab cb x.body (j + nuE x.subs) M1 hC hH1.body hBe1 hbe hb1 (by have := nuE_le x.subs; omega) (by omega))
      rw [h10] at c0
      clear h10
      go_wp2_with fail
      refine HLX.out.mono ?_
      rintro e w2 ⟨A2, c2', rfl, hL3, hB3, hf3⟩
      obtain ⟨y, hy⟩ : ∃ y, y = x.edX ed j := ⟨_, rfl⟩
      have hyx : Nd.mk x.kind x.text x.num (edE ed x.subs j) x.params (edL ed x.body (j + nuE x.subs)) x.els = y := by rw [hy, Nd.edX_eq, if_pos HK.out]
      have HY := Lib.hid hy
      clear hy
      have hBx3 := hBx2.fr hf3 (by simp; omega)
      obtain ⟨z0, z1, z2, z3, z4, z5, z6⟩ := hBx3.fz
      have hsM1 := hBx2.lt
      clear c0 c1 c2 c3 c4 c5 c6 HLX hBx2
      obtain ⟨c0, c1, c2, c3, c4, c5, c6⟩ := hBx3.cs
      dsimp only [ndK, ndT, ndM, ndS, ndP, ndB, ndE] at c0 c1 c2 c3 c4 c5 c6
      go_upto_region 8 with fail
      refine wp_hide (fun M8 hM8 => ?_)
      have hBy : Blk M8 bx 46 (ndCells y ⟨A1, c1', Ap, cp, A2, c2', Ae, ce⟩) := by rw [hM8, ← hyx]; simpa [ndCells, ndK, ndT, ndM, ndS, ndP, ndB, ndE] using hBx3.set_ 5 (.slice A2 (edL ed x.body (j + nuE x.subs)).length c2')
      have hf4 : Fr [bx] w2 M8 := by rw [hM8]; exact (Fr.refl _ _).setCell (p := ⟨bx, 5, none⟩) (.inl (by simp)) _
      have hs3 := hf3.size
      have hBe : Blk M8 eb 205 (edCells (j + x.nuX) f caps) := by rw [hne, ← Nat.add_assoc]; exact hB3.fr hf4 (by simp; omega)
      have hG8 := (hG1.frR hf3 (fun b hb => .inl (by simp at hb; exact ⟨by omega, by omega⟩)) (fun b hb hr => by simp at hb; have := hrow _ hr; omega)).frR hf4 (fun b hb => .inr (by simpa using hb)) (fun b hb hr => by simp at hb; have := hrow _ hr; omega)
      have hw8 : Fr [eb] w M8 := (hw1.trans hf3).trans2 hf4 (fun b hb => .inr (by simp at hb; omega))
      have hfz : Fr [eb, bx] M1 M8 := (hf3.mono (by simp)).trans (hf4.mono (by simp))
      have hN8 : NdH (Bt base (bx + 1)) (n + nw) M8 ⟨A1, c1', Ap, cp, A2, c2', Ae, ce⟩ y := by
        rw [← hyx]
        have hz : ∀ b ∈ [eb, bx], Bt base (bx + 1) b := fun b hb => by simp at hb; rcases hb with rfl | rfl <;> exact ⟨by omega, by omega⟩
        refine ⟨hN1.ok, hN1.subs.fr hfz hz, hN1.params.fr hfz hz, ?_, hN1.els.fr hfz hz⟩
        exact (hL3.sub (fun b _ hb => ⟨hb.1, by have := hb.2; omega⟩)).fr hf4 (fun b hb => by simp at hb; exact ⟨by omega, by omega⟩)
      clear hM8 hBx3 hf3 hf4 hB3 hL3 hG1 hw1 hN1 hH1 hb1 hBe1 z0 z1 z2 z3 z4 z5 z6 c0 c1 c2 c3 c4 c5 c6 hyx hfz HK
      generalize (HdN.mk A1 c1' Ap cp A2 c2' Ae ce) = hdy at *
    case' inr =>
      have ek : (x.kind == 10) = false := by simpa using h10
      rw [if_neg h10] at hne
      obtain ⟨y, hy⟩ : ∃ y, y = x.edX ed j := ⟨_, rfl⟩
      have hyx : Nd.mk x.kind x.text x.num (edE ed x.subs j) x.params x.body x.els = y := by rw [hy, Nd.edX_eq, if_neg h10]
      rw [hyx] at hN1 hBx2
      have HY := Lib.hid hy
      clear h10 hy hyx
      go_upto_region 8 with fail
      obtain ⟨M8, hM8⟩ : ∃ M8, M8 = M1 := ⟨_, rfl⟩
      rw [← hM8] at hBx2 hN1 hG1 hw1 ⊢
      have hBe : Blk M8 eb 205 (edCells (j + x.nuX) f caps) := by rw [hne, Nat.add_zero, hM8]; exact hBe1
      have hBy := hBx2
      have hG8 := hG1
      have hw8 := hw1
      have hN8 := hN1
      clear hM8 hBx2 hG1 hw1 hN1 hH1 hb1 hBe1 c0 c1 c2 c3 c4 c5 c6
      generalize (HdN.mk A1 c1' Ap cp Ab cb Ae ce) = hdy at *
    all_goals (
      obtain ⟨c0, c1, c2, c3, c4, c5, c6⟩ := hBy.cs
      have hf5 : Fr [] M8 (M8.alloc (.cells (ndCells y hdy) 46)) := (Fr.refl _ _).alloc _
      have hG5 := hG8.fr0 hf5
      have hN5 := hN8.fr0 hf5
      have hB5 : Blk (M8.alloc (.cells (ndCells y hdy) 46)) M8.heap.size 46 (ndCells y hdy) := Blk.new _ _ _ _ rfl
      have hc5 : Cells (M8.alloc (.cells (ndCells y hdy) 46)) (some ⟨M8.heap.size, 0, none⟩) (ndL y hdy) := fun _ => ⟨M8.heap.size, 0, rfl, fun j u hu => by rw [Nat.zero_add]; exact hB5.cell j (by simpa using hu)⟩
      have hs8 := hw8.size
      go_wp2_with (at_builtin; refine wpList_append_g rfl (.tmp 27) (.tmp 29) _ rfl elemNd (.slice B acc.length d) (flatN acc hs) rfl hG5.own (some ⟨M8.heap.size, 0, none⟩) 1 1 (ndL y hdy) rfl hc5 rfl (Nat.le_refl _) (ndL_one _ _) ?c2 ?c3 ?_)
      case c2 => have := HAL.out; omega
      case c3 => simp; omega
      intro A6 c6' w6 ho6 hg6 hat6
      have hG6 : GNd (Bt base w.heap.size) (n + nw) w.heap.size w6 A6 c6' (acc ++ [y]) (hs ++ [hdy]) := (hG5.less (S' := Bt base w.heap.size) (fun b h => .inl h)).appL (l := [y]) (gs := [hdy]) rfl (fun q z hz e1 e2 => by
        match q, e1, e2 with
        | 0, e1, e2 =>
          simp at e1 e2
          subst e1 e2
          exact hN5.sub fun b _ hb => hb.elim (fun h => ⟨h.1, by have := h.2; omega⟩) (fun h => by have := hrow _ h; exact ⟨by omega, by omega⟩)) hg6 (by simpa [flatN] using ho6) (by simpa using hat6)
      have hF6 : Fr [eb] w w6 := Fr.app (hw8.alloc _) hG5.own (Nat.le_refl _) hg6
      have hBe6 : Blk w6 eb 205 (edCells (j + x.nuX) f caps) := (hBe.fr hf5 (by simp)).grown hg6 (fun e => by
        have := (hG5.own.lt eb e.symm).1
        omega)
      clear hG5 hN5 hB5 hc5 hf5 hG8 hN8 ho6 hg6 hat6 hBe hw8 hBy c0 c1 c2 c3 c4 c5 c6
      have HG6 := Lib.hid hG6
      have hL6 : (edE ed (l.take (k + 1)) i).length = acc.length + 1 := by rw [HS1.out]; simp
      have HL6 := Lib.hid hL6
      clear hG6 hL6
      go_wp2_with fail
      go_roundw
      case rel => exact ⟨k + 1, by omega, by go_num, A6, c6', _, by rw [HL6.out], by rw [HS1.out, ← HY.out]; exact HG6.out, by rw [HS2.out]; exact hBe6, hF6⟩
      case measure => simp [intOf]; omega)
end

/- The editor over statements (printed by gen/edtl.py). -/
section
open Go.RowKit
set_option linter.unusedSimpArgs false
structure EnvB (base eb bx : Nat) (w0 w : World) (n : Nat) (B : Option Addr) (d : Nat) (acc : List Nd) (hs : List HdN) (M : World) : Prop where
 g : GNd (fun b => Bt base w.heap.size b ∨ b = bx) n w.heap.size M B d acc hs
 f : Fr [eb] w M
 b : Below base w0 M
 lt : bx < M.heap.size
 row : ∀ b, RowB B b → w.heap.size ≤ b ∧ b < bx
 l1 : base ≤ eb
 l2 : eb < w.heap.size
 l3 : w.heap.size ≤ bx
section
variable {base eb bx : Nat} {w0 w : World} {n : Nat} {B : Option Addr} {d : Nat} {acc : List Nd} {hs : List HdN} {M M' : World}
theorem EnvB.call (h : EnvB base eb bx w0 w n B d acc hs M) (hf : Fr [eb] M M') : EnvB base eb bx w0 w n B d acc hs M' := by
 have := h.l1
 have := h.l2
 have := h.l3
 have := h.f.size
 exact ⟨h.g.frR hf (fun b hb => .inl (by simp at hb; exact ⟨by omega, by omega⟩)) (fun b hb hr => by simp at hb; have := h.row _ hr; omega), h.f.trans hf, h.b.trans (hf.belb (base := base) (by simp; omega) (by omega)), Nat.lt_of_lt_of_le h.lt hf.size, h.row, h.l1, h.l2, h.l3⟩
theorem EnvB.box (h : EnvB base eb bx w0 w n B d acc hs M) (hf : Fr [bx] M M') : EnvB base eb bx w0 w n B d acc hs M' := by
 have := h.l1
 have := h.l2
 have := h.l3
 have := h.f.size
 exact ⟨h.g.frR hf (fun b hb => .inr (by simpa using hb)) (fun b hb hr => by simp at hb; have := h.row _ hr; omega), h.f.trans2 hf (fun b hb => .inr (by simp at hb; omega)), h.b.trans (hf.belb (base := base) (by simp; omega) (by omega)), Nat.lt_of_lt_of_le h.lt hf.size, h.row, h.l1, h.l2, h.l3⟩
theorem EnvB.put (h : EnvB base eb bx w0 w n B d acc hs M) (q : Nat) (u : Value) : EnvB base eb bx w0 w n B d acc hs (M.setCell ⟨bx, q, none⟩ u) := h.box ((Fr.refl _ _).setCell (p := ⟨bx, q, none⟩) (.inl (by simp)) u)
theorem fr_put (M : World) (g q : Nat) (u : Value) : Fr [g] M (M.setCell ⟨g, q, none⟩ u) := (Fr.refl _ _).setCell (p := ⟨g, q, none⟩) (.inl (by simp)) u
end
theorem own_row {A : Option Addr} {n c k : Nat} (h : (Value.slice A n c).ownBlock = some k) : RowB A k := by
 cases A with
 | none => simp [Value.ownBlock] at h
 | some a => simp [Value.ownBlock] at h; exact ⟨a, rfl, h⟩
theorem edL_snoc {ed : Nat → Nd → List Nd} {l : List Nd} {k i : Nat} {x : Nd} (h : Hid (l[k]? = some x)) : edL ed (l.take (k + 1)) i = edL ed (l.take k) i ++ x.edS ed (i + nuL (l.take k)) ∧ nuL (l.take (k + 1)) = nuL (l.take k) + x.nuS := by
 rw [take_at h, edL_app, nuL_app]
 simp [edL, nuL]
set_option maxHeartbeats 6400000 in
set_option maxRecDepth 20000 in
theorem edL_step (n : Nat) (hE : EdEOk n) (hL : EdLOk n) : EdLOk (n + 1) := by
 intro base eb w0 f caps nw K M_ ed A c l i w hC h hB hbe hb0 hcnt hK
 have hl1 := h.len
 have hlt0 := hB.lt
 go_enter Tryz.func150, Tryz.ntmps150
 go_wp2
 go_loopw [5, 11] (fun v j wr => ∃ k : Nat, k ≤ l.length ∧ j = .int .i64 k ∧ ∃ B d hs, v = .slice B (edL ed (l.take k) i).length d ∧ GNd (Bt base w.heap.size) (n + nw) w.heap.size wr B d (edL ed (l.take k) i) hs ∧ Blk wr eb 205 (edCells (i + nuL (l.take k)) f caps) ∧ Fr [eb] w wr) (fun _ j _ => l.length - (intOf j).toNat)
 case atStart => exact ⟨0, Nat.zero_le _, rfl, none, 0, [], by simp [edL], by simpa [edL] using GNd.nil _ _ _ _, by simpa [nuL] using hB, Fr.refl _ _⟩
 case round =>
  obtain ⟨k, hk, rfl, B, d, hs, rfl, hG, hBr, hf⟩ := hrel
  by_cases hlt : k < l.length
  rotate_left 1
  ·rw [List.take_of_length_le (by omega)] at hG hBr
   have HR := Lib.hid (hG.ln (fun b hb hs => by have := hs.2; omega))
   rw [List.take_of_length_le (by omega)]
   go_wp2
   go_ret
   exact ⟨_, _, rfl, by rw [Nat.add_right_comm]; exact HR.out, hBr, hf⟩
  obtain ⟨kb, off, x, ⟨As, cs, Ap, cp, Ab, cb, Ae, ce⟩, rfl, hx, hN, hH, hkb⟩ := h.at_ hlt
  have hkB : kb < base := Nat.lt_of_not_le hkb
  have hcx := cntL_tk hx
  have hce := Nd.cnt_eq x
  have hne := Nd.nuS_eq x
  have hnk := nuL_take_le (l := l) (k + 1)
  have hnl : nuL (l.take k) ≤ cntL (l.take k) := nuL_le _
  have hnE := nuE_le x.subs
  have hnB := nuL_le x.body
  obtain ⟨es1, es2⟩ := edL_snoc (ed := ed) (i := i) hx
  rw [es2] at hnk
  have hal : (edL ed (l.take k) i).length ≤ M_ * 1000000 := Nat.le_trans (edL_len hC.len _ _) (Nat.mul_le_mul_left _ (by have := lenCnt (l.take k); omega))
  have hM1 := hC.small
  have HAL : Hid ((edL ed (l.take k) i).length ≤ 10000000000) := Lib.hid (by omega)
  have HS1 := Lib.hid es1
  have HS2 : Hid (i + nuL (l.take (k + 1)) = i + nuL (l.take k) + x.nuS) := Lib.hid (by rw [es2]; omega)
  have hbw : base ≤ w.heap.size := by omega
  have hsz := hf.size
  obtain ⟨c0, c1, c2, c3, c4, c5, c6⟩ := hN.fr hf (by simp; omega)
  have hHr := hH.upb hf (by simp; exact hbe)
  have hb1 := hb0.trans (hf.belb (base := base) (by simp; exact hbe) hbw)
  clear es1 es2 hN hH hal hM1
  obtain ⟨j, hj⟩ : ∃ j, j = i + nuL (l.take k) := ⟨_, rfl⟩
  rw [← hj] at hBr HS1 HS2
  have hjc : j + x.cnt ≤ 1000000 := by omega
  have hjK : j + x.nuS ≤ K := by omega
  clear hj hnl hcx hnk
  generalize edL ed (l.take k) i = acc at *
  have q0 : wr.cell? ⟨eb, 0, none⟩ = some (.int .i64 j) := hBr.cell 0 rfl
  have f0 := hBr.frozen 0
  obtain ⟨bx, hbx⟩ : ∃ g, g = wr.heap.size := ⟨_, rfl⟩
  have hek : kb ≠ eb := by omega
  go_upto_region 8 with fail
  rw [← hbx]
  refine wp_hide (fun M hM => ?_)
  have hS1 : Fr [eb] wr (wr.setCell ⟨eb, 0, none⟩ (.int .i64 ((j : Int) + 1))) := fr_put _ _ _ _
  have hfA : Fr [] (wr.setCell ⟨eb, 0, none⟩ (.int .i64 ((j : Int) + 1))) M := by rw [hM]; exact (Fr.refl _ _).alloc _
  have hBx : Blk M bx 46 (ndCells x ⟨As, cs, Ap, cp, Ab, cb, Ae, ce⟩) := by rw [hM]; exact Blk.new _ _ _ _ (by simp [hbx])
  have hBe : Blk M eb 205 (edCells (j + 1) f caps) := by
   have h1 := hBr.set_ 0 (.int .i64 ((j : Int) + 1))
   have h2 : Blk (wr.setCell ⟨eb, 0, none⟩ (.int .i64 ((j : Int) + 1))) eb 205 (edCells (j + 1) f caps) := by simpa [edCells] using h1
   exact h2.fr hfA (by simp)
  have hEN : EnvB base eb bx w0 w (n + nw) B d acc hs M :=
   ⟨(hG.frR hS1 (fun b hb => by simp at hb; exact ⟨by omega, by omega⟩) (fun b hb hr => by simp at hb; have := hG.row hr; omega)).ext hfA (X := bx) (by simp [hbx]), (hf.trans hS1).trans0 hfA, hb1.trans ((hS1.trans0 hfA).belb (base := base) (by simp; exact hbe) (by omega)), hBx.lt, fun b hb => by have := hG.row hb; omega, hbe, hlt0, by omega⟩
  have hHM := (hHr.upb hS1 (by simp; exact hbe)).upb hfA (by simp)
  have hMs : M.heap.size = bx + 1 := by rw [hM, hbx]; simp
  have hbb : base ≤ bx := by omega
  have hbxw : w.heap.size ≤ bx := by omega
  clear hM hbx hBr hG hHr hb1 hf hS1 hfA c0 c1 c2 c3 c4 c5 c6 q0 f0 hek
  obtain ⟨c0, c1, c2, c3, c4, c5, c6⟩ := hBx.cs
  dsimp only at c3 c4 c5 c6
  have HC1 := Lib.hid (hE base eb w0 f caps nw K M_ ed As cs x.subs (j + 1) M hC hHM.subs hBe hbe hEN.b (by omega) (by omega))
  go_wp2_with fail
  refine HC1.out.mono ?_
  rintro e w1 ⟨A1, d1, rfl, hL1, hB1, hf1⟩
  have hBx1 := hBx.fr hf1 (by simp; have := hEN.l2; have := hEN.l3; omega)
  obtain ⟨z0, z1, z2, z3, z4, z5, z6⟩ := hBx1.fz
  have hEN1 := hEN.call hf1
  have hH1 := hHM.upb hf1 (by simp; exact hbe)
  clear c0 c1 c2 c3 c4 c5 c6 HC1 hEN hBe hHM hBx
  obtain ⟨c0, c1, c2, c3, c4, c5, c6⟩ := hBx1.cs
  dsimp only [ndK, ndT, ndM, ndS, ndP, ndB, ndE] at c0 c1 c2 c3 c4 c5 c6
  go_upto_region 9 with fail
  refine wp_hide (fun M1 hM => ?_)
  have hBx : Blk M1 bx 46 (ndCells (.mk x.kind x.text x.num (edE ed x.subs (j + 1)) x.params x.body x.els) ⟨A1, d1, Ap, cp, Ab, cb, Ae, ce⟩) := by rw [hM]; simpa [ndCells, ndK, ndT, ndM, ndS, ndP, ndB, ndE] using hBx1.set_ 3 (.slice A1 (edE ed x.subs (j + 1)).length d1)
  have hp1 : Fr [bx] w1 M1 := by rw [hM]; exact fr_put _ _ _ _
  have hEN := hEN1.box hp1
  have hBe : Blk M1 eb 205 (edCells (j + 1 + nuE x.subs) f caps) := hB1.fr hp1 (by simp; have := hEN.l2; have := hEN.l3; omega)
  have hHM := hH1.upb hp1 (by simp; exact hbb)
  rw [hMs] at hL1
  have hL1 := hL1.fr hp1 (fun b hb => by simp at hb; exact ⟨by omega, by omega⟩)
  have hMl1 := hBx.lt
  obtain ⟨M, hMM⟩ : ∃ V, V = M1 := ⟨_, rfl⟩
  rw [← hMM] at hBx hEN hBe hHM hL1 hMl1 ⊢
  clear hMM hM hBx1 hEN1 hH1 hp1 hf1 hB1 z0 z1 z2 z3 z4 z5 z6 c0 c1 c2 c3 c4 c5 c6
  obtain ⟨c0, c1, c2, c3, c4, c5, c6⟩ := hBx.cs
  dsimp only [ndK, ndT, ndM, ndS, ndP, ndB, ndE] at c0 c1 c2 c3 c4 c5 c6
  have HC2 := Lib.hid (hL base eb w0 f caps nw K M_ ed Ab cb x.body (j + 1 + nuE x.subs) M hC hHM.body hBe hbe hEN.b (by omega) (by omega))
  go_wp2_with fail
  refine HC2.out.mono ?_
  rintro e w2 ⟨A2, d2, rfl, hL2, hB2, hf2⟩
  have hBx1 := hBx.fr hf2 (by simp; have := hEN.l2; have := hEN.l3; omega)
  obtain ⟨z0, z1, z2, z3, z4, z5, z6⟩ := hBx1.fz
  have hEN1 := hEN.call hf2
  have hH1 := hHM.upb hf2 (by simp; exact hbe)
  clear c0 c1 c2 c3 c4 c5 c6 HC2 hEN hBe hHM hBx
  obtain ⟨c0, c1, c2, c3, c4, c5, c6⟩ := hBx1.cs
  dsimp only [ndK, ndT, ndM, ndS, ndP, ndB, ndE] at c0 c1 c2 c3 c4 c5 c6
  go_upto_region 10 with fail
  refine wp_hide (fun M2 hM => ?_)
  have hBx : Blk M2 bx 46 (ndCells (.mk x.kind x.text x.num (edE ed x.subs (j + 1)) x.params (edL ed x.body (j + 1 + nuE x.subs)) x.els) ⟨A1, d1, Ap, cp, A2, d2, Ae, ce⟩) := by rw [hM]; simpa [ndCells, ndK, ndT, ndM, ndS, ndP, ndB, ndE] using hBx1.set_ 5 (.slice A2 (edL ed x.body (j + 1 + nuE x.subs)).length d2)
  have hp2 : Fr [bx] w2 M2 := by rw [hM]; exact fr_put _ _ _ _
  have hEN := hEN1.box hp2
  have hBe : Blk M2 eb 205 (edCells (j + 1 + nuE x.subs + nuL x.body) f caps) := hB2.fr hp2 (by simp; have := hEN.l2; have := hEN.l3; omega)
  have hHM := hH1.upb hp2 (by simp; exact hbb)
  have hL2 := hL2.sub (S' := Bt base (bx + 1)) (fun b _ hb => ⟨hb.1, by have := hb.2; omega⟩)
  have hL2 := hL2.fr hp2 (fun b hb => by simp at hb; exact ⟨by omega, by omega⟩)
  have hL1 := (hL1.fr hf2 (fun b hb => by simp at hb; exact ⟨by omega, by omega⟩)).fr hp2 (fun b hb => by simp at hb; exact ⟨by omega, by omega⟩)
  have hMl2 := hBx.lt
  obtain ⟨M, hMM⟩ : ∃ V, V = M2 := ⟨_, rfl⟩
  rw [← hMM] at hBx hEN hBe hHM hL1 hL2 hMl2 ⊢
  clear hMM hM hBx1 hEN1 hH1 hp2 hf2 hB2 z0 z1 z2 z3 z4 z5 z6 c0 c1 c2 c3 c4 c5 c6
  obtain ⟨c0, c1, c2, c3, c4, c5, c6⟩ := hBx.cs
  dsimp only [ndK, ndT, ndM, ndS, ndP, ndB, ndE] at c0 c1 c2 c3 c4 c5 c6
  have HC3 := Lib.hid (hL base eb w0 f caps nw K M_ ed Ae ce x.els (j + 1 + nuE x.subs + nuL x.body) M hC hHM.els hBe hbe hEN.b (by omega) (by omega))
  go_wp2_with fail
  refine HC3.out.mono ?_
  rintro e w3 ⟨A3, d3, rfl, hL3, hB3, hf3⟩
  have hBx1 := hBx.fr hf3 (by simp; have := hEN.l2; have := hEN.l3; omega)
  obtain ⟨z0, z1, z2, z3, z4, z5, z6⟩ := hBx1.fz
  have hEN1 := hEN.call hf3
  have hH1 := hHM.upb hf3 (by simp; exact hbe)
  clear c0 c1 c2 c3 c4 c5 c6 HC3 hEN hBe hHM hBx
  obtain ⟨c0, c1, c2, c3, c4, c5, c6⟩ := hBx1.cs
  dsimp only [ndK, ndT, ndM, ndS, ndP, ndB, ndE] at c0 c1 c2 c3 c4 c5 c6
  go_upto_region 11 with fail
  refine wp_hide (fun M3 hM => ?_)
  have hBx : Blk M3 bx 46 (ndCells (.mk x.kind x.text x.num (edE ed x.subs (j + 1)) x.params (edL ed x.body (j + 1 + nuE x.subs)) (edL ed x.els (j + 1 + nuE x.subs + nuL x.body))) ⟨A1, d1, Ap, cp, A2, d2, A3, d3⟩) := by rw [hM]; simpa [ndCells, ndK, ndT, ndM, ndS, ndP, ndB, ndE] using hBx1.set_ 6 (.slice A3 (edL ed x.els (j + 1 + nuE x.subs + nuL x.body)).length d3)
  have hp3 : Fr [bx] w3 M3 := by rw [hM]; exact fr_put _ _ _ _
  have hEN := hEN1.box hp3
  have hBe : Blk M3 eb 205 (edCells (j + 1 + nuE x.subs + nuL x.body + nuL x.els) f caps) := hB3.fr hp3 (by simp; have := hEN.l2; have := hEN.l3; omega)
  have hHM := hH1.upb hp3 (by simp; exact hbb)
  have hL3 := hL3.sub (S' := Bt base (bx + 1)) (fun b _ hb => ⟨hb.1, by have := hb.2; omega⟩)
  have hL3 := hL3.fr hp3 (fun b hb => by simp at hb; exact ⟨by omega, by omega⟩)
  have hL1 := (hL1.fr hf3 (fun b hb => by simp at hb; exact ⟨by omega, by omega⟩)).fr hp3 (fun b hb => by simp at hb; exact ⟨by omega, by omega⟩)
  have hL2 := (hL2.fr hf3 (fun b hb => by simp at hb; exact ⟨by omega, by omega⟩)).fr hp3 (fun b hb => by simp at hb; exact ⟨by omega, by omega⟩)
  have hMl3 := hBx.lt
  obtain ⟨M, hMM⟩ : ∃ V, V = M3 := ⟨_, rfl⟩
  rw [← hMM] at hBx hEN hBe hHM hL1 hL2 hL3 hMl3 ⊢
  clear hMM hM hBx1 hEN1 hH1 hp3 hf3 hB3 z0 z1 z2 z3 z4 z5 z6 c0 c1 c2 c3 c4 c5 c6
  obtain ⟨c0, c1, c2, c3, c4, c5, c6⟩ := hBx.cs
  dsimp only [ndK, ndT, ndM, ndS, ndP, ndB, ndE] at c0 c1 c2 c3 c4 c5 c6
  obtain ⟨y, hy⟩ : ∃ y, y = (Nd.mk x.kind x.text x.num (edE ed x.subs (j + 1)) x.params (edL ed x.body (j + 1 + nuE x.subs)) (edL ed x.els (j + 1 + nuE x.subs + nuL x.body)) : Nd) := ⟨_, rfl⟩
  have hN8 : NdH (Bt base (bx + 1)) (n + nw) M ⟨A1, d1, Ap, cp, A2, d2, A3, d3⟩ y := by rw [hy]; exact ⟨hHM.ok, hL1, hHM.params.sub (fun b _ hb => hb.1), hL2, hL3⟩
  rw [← hy] at hBx
  have HY : Hid (x.edS ed j = ed j y) := Lib.hid (by rw [Nd.edS_eq, hy])
  have hBe : Blk M eb 205 (edCells (j + x.nuS) f caps) := by rw [hne, show j + (1 + nuE x.subs + nuL x.body + nuL x.els) = j + 1 + nuE x.subs + nuL x.body + nuL x.els by omega]; exact hBe
  clear hy hL1 hL2 hL3 hHM hMl1 hMl2 hMs c0 c1 c2 c3 c4 c5 c6 hnE hnB hce
  generalize (HdN.mk A1 d1 Ap cp A2 d2 A3 d3) = hdy at *
  have HEN := Lib.hid hEN
  have hjK2 : j < K := by omega
  have hgc := hC.enter
  have hsM := hEN.lt
  have hbM := hEN.b
  have hebx : eb < bx := by have := hEN.l2; omega
  have HG := Lib.hid hEN.g
  have hrw := hEN.row
  clear hEN
  refine wp_region_P [] (fun w' => Blk w' eb 205 (edCells (j + x.nuS) f caps) ∧ Blk w' bx 46 (ndCells y hdy)) (⟨hBe, hBx⟩) (by kernel_rfl) (fun hHeld => ?_)
  refine tkP 0 ?_ (y := fun w hSw => ?_) (h := ?_)
  rotate_left 1
  ·(try dsimp only at hSw)
   go_simp
   try with_reducible rfl
  try simp only [Act.put, lA, lZ, lS]
  refine tkP 1 ?_ (y := fun w hSw => ?_) (h := ?_)
  rotate_left 1
  ·(try dsimp only at hSw)
   go_simp
   try with_reducible rfl
  try simp only [Act.put, lA, lZ, lS]
  refine tkP 2 ?_ (y := fun w hSw => ?_) (h := ?_)
  rotate_left 1
  ·(try dsimp only at hSw)
   go_simp
   try with_reducible rfl
  try simp only [Act.put, lA, lZ, lS]
  refine tkP 3 ?_ (y := fun w hSw => ?_) (h := ?_)
  rotate_left 1
  ·(try dsimp only at hSw)
   go_simp
   try with_reducible rfl
  try simp only [Act.put, lA, lZ, lS]
  refine tkP 4 ?_ (y := fun w hSw => ?_) (h := ?_)
  rotate_left 1
  ·(try dsimp only at hSw)
   have k4 := hSw.1.cell 1 rfl
   go_simp
   try with_reducible rfl
  try simp only [Act.put, lA, lZ, lS]
  refine tkP 5 ?_ (y := fun w hSw => ?_) (h := ?_)
  rotate_left 1
  ·(try dsimp only at hSw)
   go_simp
   try with_reducible rfl
  try simp only [Act.put, lA, lZ, lS]
  refine tkP 6 ?_ (y := fun w hSw => ?_) (h := ?_)
  rotate_left 1
  ·(try dsimp only at hSw)
   obtain ⟨k0, k1, k2, k3, k4, k5, k6⟩ := hSw.2.cs
   go_simp
   try with_reducible rfl
  try simp only [Act.put, lA, lZ, lS]
  refine wpAnyP_ready (rs := [7]) (by kernel_rfl) (by simp) ?_; refine AllReadyP.cons rfl (fun K hK => ?_) AllReadyP.nil; go_simp
  refine (hC.call _ j (n + nw) (bx + 1) y hdy (hbM.trans (Fr.belb (base := base) (Z := []) ((Fr.refl _ _).drew) (by simp) (by omega))) (by have : M.drew.heap.size = M.heap.size := rfl; omega) hjK2 (Nat.le_add_left _ _) (hN8.fr0 ((Fr.refl _ _).drew))).mono ?_
  rintro e w5 ⟨Bq, dq, rfl, hLq, f5⟩
  have f5 : Fr [] M w5 := ((Fr.refl [] M).drew).trans f5
  refine Shut.on hK (⟨hBe.fr f5 (by simp), hBx.fr f5 (by simp)⟩) (fun hHeld2 => ?_); clear hK K hHeld; have hHeld := hHeld2; clear hHeld2; try simp only [Act.put, lA, lZ, lS]
  obtain ⟨gs, hgl, hcl, hat⟩ := hLq.heads
  have hG5 := HG.out.fr0 f5
  refine wpAnyP_ready (rs := [8]) (by kernel_rfl) (by simp) ?_; refine AllReadyP.cons rfl (fun K hK => ?_) AllReadyP.nil
  refine step_append_g rfl (.tmp 44) (.tmp 51) _ rfl elemNd (.slice B acc.length d) (flatN acc hs) rfl hG5.own Bq (ed j y).length dq (flatN (ed j y) gs) rfl hcl (flatN_len _ _ hgl) hLq.bound.2.2 (flatN_one _ _) ?c2 ?c3 ?_
  case c2 => have := HAL.out; have := hC.len j y; have := hC.small; omega
  case c3 => have := f5.size; have := HEN.out.f.size; omega
  intro A6 c6 w6 ho6 hg6 hat6
  have hG6 : GNd (Bt base w.heap.size) (n + nw) w.heap.size w6 A6 c6 (acc ++ ed j y) (hs ++ gs) := (hG5.less (S' := Bt base w.heap.size) (fun b h => .inl h)).appL hgl (fun q z hz e1 e2 => (hat q z hz e1 e2).sub fun b _ hb => hb.elim (fun h => ⟨h.1, by have := h.2; omega⟩) (fun h => by have := hrw _ h; exact ⟨by omega, by omega⟩)) hg6 ho6 hat6
  have hne1 : some eb ≠ (Value.slice B acc.length d).ownBlock := fun e => by have := hrw _ (own_row e.symm); omega
  have hne2 : some bx ≠ (Value.slice B acc.length d).ownBlock := fun e => by have := hrw _ (own_row e.symm); omega
  have hBe6 := (hBe.fr f5 (by simp)).grown hg6 hne1
  have hBx6 := (hBx.fr f5 (by simp)).grown hg6 hne2
  have hF6 : Fr [eb] w w6 := Fr.app (HEN.out.f.trans0 f5) hG5.own (Nat.le_refl _) hg6
  have HG6 := Lib.hid hG6
  have HL6 : Hid ((edL ed (l.take (k + 1)) i).length = acc.length + (ed j y).length) := Lib.hid (by rw [HS1.out, HY.out]; simp)
  refine Shut.on hK (⟨hBe6, hBx6⟩) (fun hHeld2 => ?_); clear hK K hHeld; have hHeld := hHeld2; clear hHeld2; try simp only [Act.put, lA, lZ, lS]
  clear hG5 hG6 ho6 hg6 hat6 hcl hat hLq hne1 hne2 HG HEN hN8 hBe hBx
  refine tkP 9 ?_ (y := fun w hSw => ?_) (h := ?_)
  rotate_left 1
  ·(try dsimp only at hSw)
   go_simp
   try with_reducible rfl
  try simp only [Act.put, lA, lZ, lS]
  refine wpAnyP_done (by kernel_rfl) ?_ _
  go_wp2_with fail
  go_roundw
  case rel => exact ⟨k + 1, by omega, by go_num, A6, c6, _, by rw [HL6.out], by rw [HS1.out, HY.out]; exact HG6.out, by rw [HS2.out]; exact hBe6, hF6⟩
  case measure => simp [intOf]; omega
theorem ed_all : ∀ n, EdEOk n ∧ EdLOk n
 | 0 => ⟨fun _ _ _ _ _ _ _ _ _ _ _ _ _ _ _ h => absurd h id, fun _ _ _ _ _ _ _ _ _ _ _ _ _ _ _ h => absurd h id⟩
 | n + 1 => ⟨edE_step n (ed_all n).1 (ed_all n).2, edL_step n (ed_all n).1 (ed_all n).2⟩
end

/- rebuilt (printed by gen/rbl.py). -/
section
open Go.RowKit
set_option linter.unusedSimpArgs false
def RetProg (w : World) (n : Nat) (fs : List Fu) (en : Ending) (w' : World) : Prop := ∃ A c, en = .returned (.agg #[.slice A fs.length c]) ∧ RF (Bel w) n w' A c fs ∧ Fr [] w w'
theorem Rd.cells {α : Type} {w : World} {enc : α → Value} {A : Option Addr} {c : Nat} {xs : List α} (h : Rd w enc A c xs) : Cells w A (xs.map enc) := fun h0 => by
 obtain ⟨b, off, hA, hc⟩ := h.at0 (by simpa using h0)
 refine ⟨b, off, hA, fun j u hu => ?_⟩
 simp only [List.getElem?_map, Option.map_eq_some_iff] at hu
 obtain ⟨x, hx, rfl⟩ := hu
 exact hc j x hx
theorem edF_snoc {ed : Nat → Nd → List Nd} {fs : List Fu} {k i : Nat} {f : Fu} (h : Hid (fs[k]? = some f)) : edF ed (fs.take (k + 1)) i = edF ed (fs.take k) i ++ [⟨f.name, f.params, edL ed f.body (i + nuF (fs.take k))⟩] ∧ nuF (fs.take (k + 1)) = nuF (fs.take k) + nuL f.body := by
 rw [take_at h, edF_app]
 simp [edF, nuF]
theorem nuF_take_le {fs : List Fu} (k : Nat) : nuF (fs.take k) ≤ nuF fs := by
 unfold nuF
 conv => rhs; rw [← List.take_append_drop k fs, List.map_append, List.sum_append]
 omega
theorem nuF_le (fs : List Fu) : nuF fs ≤ cntF fs := by
 unfold nuF cntF
 induction fs with
 | nil => simp
 | cons f fs ih => have := nuL_le f.body; simp only [List.map_cons, List.sum_cons]; omega
theorem results_progR {fn : Func} {p : Tmp} (h : fn.results = #[.cell p 25]) (tmps : Array Value) (w : World) (g : Nat) {a0 : Value} (hp : tmps.getD p undef = .pointer (some ⟨g, 0, none⟩)) (hb : Blk w g 25 #[a0]) :
  (results fn tmps).run Tryz.prog w = .ok (.agg #[a0]) w := by
 have c0 := hb.cell 0 rfl
 simp only [Array.getD_eq_getD_getElem?] at hp
 simp [results, h, go_sem, hp, c0]
set_option maxHeartbeats 6400000 in
set_option maxRecDepth 20000 in
theorem rebuilt_any {S : Nat → Prop} {n : Nat} {A : Option Addr} {c : Nat} {fs : List Fu} {w : World} (pb : Nat) (f : FuncId) (caps : Array Value) (nw KK M_ : Nat) (ed : Nat → Nd → List Nd) (hR : RF S n w A c fs) (hp : w.cell? ⟨pb, 0, none⟩ = some (.slice A fs.length c)) (hC : EdC w.heap.size w f caps nw KK M_ ed)
  (hcnt : cntF fs ≤ 1000000) (hfl : fs.length ≤ 1000000) (hK : nuF fs ≤ KK) (hfp : ∀ g ∈ fs, g.params.length ≤ 1000000000) (hed : ∀ g ∈ fs, ∀ i, cntL (edL ed g.body i) ≤ 1000000000 ∧ ppL (edL ed g.body i)) :
  Calls Tryz.prog 94 #[.pointer (some ⟨pb, 0, none⟩), .func (.func f) #[] caps] w (RetProg w (n + nw) (edF ed fs 0)) := by
 have hl1 := hR.bound
 have hpb := Lib.lt_of_cell hp
 dsimp only at hpb
 obtain ⟨rs, hrs⟩ : ∃ g, g = w.heap.size := ⟨_, rfl⟩
 have HRS := Lib.hid hrs
 clear hrs
 go_enter Tryz.func94, Tryz.ntmps94
 go_upto_region 3 with fail
 have hrs := HRS.out
 rw [← hrs]
 refine wp_hide (fun W hW => ?_)
 have hf0 : Fr [] w W := by rw [hW]; exact frx
 have hBR : Blk W rs 25 #[.slice none 0 0] := by rw [hW]; exact ((Blk.new _ _ _ _ hrs).alloc _).alloc _
 have hBE : Blk W (rs + 1) 205 (edCells 0 f caps) := by rw [hW]; exact (Blk.new _ _ _ _ (by simp [hrs])).alloc _
 have hBO : Blk W (rs + 1 + 1) 25 #[.slice none 0 0] := by rw [hW]; exact Blk.new _ _ _ _ (by simp [hrs])
 have hWs : W.heap.size = rs + 3 := by rw [hW, hrs]; simp
 have hq := hf0.cell hp (by simp)
 have hrw : w.heap.size ≤ rs := by omega
 clear hrs hW
 go_wp2
 go_loopw [16] (fun j wr => ∃ k : Nat, k ≤ fs.length ∧ j = .int .i64 k ∧ ∃ B d hs, GFu (fun b => b < rs + 3) (n + nw) (rs + 3) wr B d (edF ed (fs.take k) 0) hs ∧ Blk wr (rs + 1 + 1) 25 #[.slice B (edF ed (fs.take k) 0).length d] ∧ Blk wr (rs + 1) 205 (edCells (nuF (fs.take k)) f caps) ∧ Blk wr rs 25 #[.slice none 0 0] ∧ Fr [] w wr ∧ rs + 3 ≤ wr.heap.size) (fun j _ => fs.length - (intOf j).toNat)
 case atStart => exact ⟨0, Nat.zero_le _, rfl, none, 0, [], by simpa [edF] using GFu.nil _ _ _ _, by simpa [edF] using hBO, by simpa [nuF] using hBE, hBR, hf0, by omega⟩
 case round =>
  obtain ⟨k, hk, rfl, B, d, hs, hG, hO, hE, hRs, hf, hsz⟩ := hrel
  clear hBR hBE hBO hf0 hWs hq
  by_cases hlt : k < fs.length
  rotate_left 1
  ·rw [List.take_of_length_le (by omega)] at hG hO
   have HF := Lib.hid (hG.rf (fun b hb hs => by omega))
   have o0 : wr.cell? ⟨rs + 1 + 1, 0, none⟩ = some (.slice B (edF ed fs 0).length d) := hO.cell 0 rfl
   have r0 : wr.cell? ⟨rs, 0, none⟩ = some (.slice none 0 0) := hRs.cell 0 rfl
   have z0 := hRs.frozen 0
   go_wp2
   refine bodyPost_ret (results_progR rfl _ _ rs rfl (a0 := .slice B (edF ed fs 0).length d) (by simpa using hRs.set_ 0 (.slice B (edF ed fs 0).length d))) rfl ?_
   have ff := fr_put wr rs 0 (.slice B (edF ed fs 0).length d)
   exact ⟨B, d, rfl, (HF.out.fr ff (fun b hb => by simp at hb; omega)).sub (fun b _ hb => by have : b < w.heap.size := hb; omega), hf.trans2 ff (fun b hb => .inr (by simp at hb; omega))⟩
  obtain ⟨kb, off, fu, Ap, cp, Ab, cb, rfl, hx, n0, n1, n2, hP, hL, hkb⟩ := hR.at_ hlt
  have hcn := cntL_of (List.mem_of_getElem? hx.out)
  have hnk := nuF_take_le (fs := fs) (k + 1)
  obtain ⟨es1, es2⟩ := edF_snoc (ed := ed) (i := 0) hx
  rw [Nat.zero_add] at es1
  have hnl : nuF (fs.take k) + cntL fu.body ≤ cntF fs := by
   have h1 := nuF_le (fs.take k)
   have h2 : cntF (fs.take (k + 1)) ≤ cntF fs := cntF_take_le fs (k + 1)
   rw [cntF_take hx] at h2
   omega
  have hkb2 := Lib.lt_of_cell n0
  dsimp only at hkb2
  have n0 := hf.cell n0 (by simp)
  have n1 := hf.cell n1 (by simp)
  have n2 := hf.cell n2 (by simp)
  have hq := hf.cell hp (by simp)
  have HAL : Hid ((edF ed (fs.take k) 0).length = k) := Lib.hid (by rw [edF_len, List.length_take]; omega)
  have HS1 := Lib.hid es1
  have HS2 := Lib.hid es2
  have hp2 := hfp fu (List.mem_of_getElem? hx.out)
  obtain ⟨hd1, hd2⟩ := hed fu (List.mem_of_getElem? hx.out) (nuF (fs.take k))
  rw [es2] at hnk
  clear es1 es2
  generalize edF ed (fs.take k) 0 = acc at *
  generalize nuF (fs.take k) = j at *
  obtain ⟨bx, hbx⟩ : ∃ g, g = wr.heap.size := ⟨_, rfl⟩
  go_upto_region 6 with fail
  rw [← hbx]
  refine wp_hide (fun M hM => ?_)
  have hfM : Fr [] wr M := by rw [hM]; exact frx
  have hBx : Blk M bx 81 #[.string fu.name, .slice Ap fu.params.length cp, .slice Ab fu.body.length cb] := by rw [hM]; exact Blk.new _ _ _ _ hbx
  have hMs : M.heap.size = bx + 1 := by rw [hM, hbx]; simp
  have hrow : ∀ b, RowB B b → rs + 3 ≤ b ∧ b < bx := fun b ⟨a, ha, hab⟩ => by
   subst ha hab
   have := hG.own.lt a.block rfl
   omega
  have hG := hG.fr0 hfM
  have hO := hO.fr hfM (by simp)
  have hE := hE.fr hfM (by simp)
  have hRs := hRs.fr hfM (by simp)
  have hwM := hf.trans hfM
  have hbr : rs + 3 ≤ bx := by omega
  have HP : Hid (∀ V, Fr [] M V → Rd V .string Ap cp fu.params) := Lib.hid fun V hV => hP.1.fr0 (hwM.trans hV)
  have HL : Hid (∀ V, Fr [] M V → LN (upB w.heap.size) n V Ab cb fu.body) := Lib.hid fun V hV => (hL.sub (fun b hb h => absurd hb (by unfold upB at h; omega))).fr0 (hwM.trans hV)
  have HBEL : Hid (∀ V, Fr [] M V → Below w.heap.size w V) := Lib.hid fun V hV => (hwM.trans hV).below
  clear hM hbx hf hfM hsz n0 n1 n2 hq
  refine wp_region_P [15] (fun w' => Blk w' (rs + 1 + 1) 25 #[.slice B acc.length d] ∧ Blk w' bx 81 #[.string fu.name, .slice Ap fu.params.length cp, .slice Ab fu.body.length cb]) (⟨hO, hBx⟩) (by kernel_rfl) (fun hHeld => ?_)
  refine tkP 0 ?_ (y := fun w hSw => ?_) (h := ?_)
  rotate_left 1
  ·(try dsimp only at hSw)
   go_simp
   try with_reducible rfl
  try simp only [Act.put, lA, lZ, lS]
  refine tkP 1 ?_ (y := fun w hSw => ?_) (h := ?_)
  rotate_left 1
  ·(try dsimp only at hSw)
   have k0 := hSw.1.cell 0 rfl
   go_simp
   try with_reducible rfl
  try simp only [Act.put, lA, lZ, lS]
  refine tkP 2 ?_ (y := fun w hSw => ?_) (h := ?_)
  rotate_left 1
  ·(try dsimp only at hSw)
   go_simp
   try with_reducible rfl
  try simp only [Act.put, lA, lZ, lS]
  refine tkP 3 ?_ (y := fun w hSw => ?_) (h := ?_)
  rotate_left 1
  ·(try dsimp only at hSw)
   have k0 := hSw.2.cell 0 rfl
   go_simp
   try with_reducible rfl
  try simp only [Act.put, lA, lZ, lS]
  refine tkP 4 ?_ (y := fun w hSw => ?_) (h := ?_)
  rotate_left 1
  ·(try dsimp only at hSw)
   go_simp
   try with_reducible rfl
  try simp only [Act.put, lA, lZ, lS]
  refine tkP 5 ?_ (y := fun w hSw => ?_) (h := ?_)
  rotate_left 1
  ·(try dsimp only at hSw)
   have k1 := hSw.2.cell 1 rfl
   go_simp
   try with_reducible rfl
  try simp only [Act.put, lA, lZ, lS]
  refine tkP 7 ?_ (y := fun w hSw => ?_) (h := ?_)
  rotate_left 1
  ·(try dsimp only at hSw)
   go_simp
   try with_reducible rfl
  try simp only [Act.put, lA, lZ, lS]
  refine tkP 8 ?_ (y := fun w hSw => ?_) (h := ?_)
  rotate_left 1
  ·(try dsimp only at hSw)
   have k2 := hSw.2.cell 2 rfl
   go_simp
   try with_reducible rfl
  try simp only [Act.put, lA, lZ, lS]
  refine wpAnyP_ready (rs := [6]) (by kernel_rfl) (by simp) ?_; refine AllReadyP.cons rfl (fun K hK => ?_) AllReadyP.nil
  have hcs : Cells M.drew Ap (fu.params.map Value.string) := Rd.cells (HP.out M (Fr.refl [] M)).drew
  have hown : M.drew.ownsRow M.heap.size 9 1 (.slice none 0 0) 0 [] := World.ownsRow_nil _ _ _ _
  have hlc := (HP.out M (Fr.refl [] M)).le
  refine step_append_g rfl (.const (.slice none 0 0)) (.tmp 25) _ rfl elemStN (.slice none 0 0) [] ?a1 hown Ap fu.params.length cp (fu.params.map .string) ?a3 hcs ?a5 hlc ?a7 ?a8 ?a9 ?_
  case a1 => rfl
  case a3 => rfl
  case a5 => simp
  case a7 => intro u hu; obtain ⟨z, _, rfl⟩ := List.mem_map.1 hu; rfl
  case a8 => omega
  case a9 => exact Nat.le_refl _
  intro Ap2 cp2 w1 hop hgp hatp
  have f1 : Fr [] M w1 := ((Fr.refl [] M).drew).grown hgp (by simp [Value.ownBlock])
  refine Shut.on hK (⟨hO.fr f1 (by simp), hBx.fr f1 (by simp)⟩) (fun hHeld2 => ?_); clear hK K hHeld; have hHeld := hHeld2; clear hHeld2; try simp only [Act.put, lA, lZ, lS]
  refine wpAnyP_ready (rs := [9]) (by kernel_rfl) (by simp) ?_; refine AllReadyP.cons rfl (fun K hK => ?_) AllReadyP.nil; go_simp
  refine ((ed_all n).2 w.heap.size (rs + 1) w f caps nw KK M_ ed Ab cb fu.body j w1 hC (HL.out _ f1) (hE.fr f1 (by simp)) (by omega) (HBEL.out _ f1) (by omega) (by omega)).mono ?_
  rintro e w2 ⟨A2, d2, rfl, hL2, hE2, f2⟩
  have hO2 := (hO.fr f1 (by simp)).fr f2 (by simp)
  have hBx2 := (hBx.fr f1 (by simp)).fr f2 (by simp; omega)
  refine Shut.on hK (⟨hO2, hBx2⟩) (fun hHeld2 => ?_); clear hK K hHeld; have hHeld := hHeld2; clear hHeld2; try simp only [Act.put, lA, lZ, lS]
  refine wpAnyP_ready (rs := [10]) (by kernel_rfl) (by simp) ?_; refine AllReadyP.cons rfl (fun K hK => ?_) AllReadyP.nil; go_simp
  refine (own_all (n + nw) _ A2 d2 _ w2 hL2 hd1 hd2).mono ?_
  rintro e w3 ⟨A3, d3, rfl, hL3, f3⟩
  have hO3 := hO2.fr f3 (by simp)
  have hBx3 := hBx2.fr f3 (by simp)
  refine Shut.on hK (⟨hO3, hBx3⟩) (fun hHeld2 => ?_); clear hK K hHeld; have hHeld := hHeld2; clear hHeld2; try simp only [Act.put, lA, lZ, lS]
  refine tkP 11 ?_ (y := fun w hSw => ?_) (h := ?_)
  rotate_left 1
  ·(try dsimp only at hSw)
   go_simp
   try with_reducible rfl
  try simp only [Act.put, lA, lZ, lS]
  have f4 : Fr [] w3 (w3.alloc (.cells (fuCells ⟨fu.name, fu.params, edL ed fu.body j⟩ ⟨Ap2, cp2, A3, d3⟩) 81)) := (Fr.refl _ _).alloc _
  refine wpAnyP_ready (rs := [12]) (by kernel_rfl) (by simp) ?_; refine AllReadyP.cons rfl (fun K hK => ?_) AllReadyP.nil; go_simp
  refine Shut.on hK (⟨hO3.fr f4 (by simp), hBx3.fr f4 (by simp)⟩) (fun hHeld2 => ?_); clear hK K hHeld; have hHeld := hHeld2; clear hHeld2; try simp only [Act.put, lA, lZ, lS]
  have hB4 : Blk (w3.alloc (.cells (fuCells ⟨fu.name, fu.params, edL ed fu.body j⟩ ⟨Ap2, cp2, A3, d3⟩) 81)) w3.heap.size 81 (fuCells ⟨fu.name, fu.params, edL ed fu.body j⟩ ⟨Ap2, cp2, A3, d3⟩) := Blk.new _ _ _ _ rfl
  have s1 := f1.size
  have s2 := f2.size
  have s3 := f3.size
  have s4 := f4.size
  have hO4 := hO3.fr f4 (by simp)
  have hBx4 := hBx3.fr f4 (by simp)
  have hE4 := (hE2.fr f3 (by simp)).fr f4 (by simp)
  have hRs4 := (((hRs.fr f1 (by simp)).fr f2 (by simp)).fr f3 (by simp)).fr f4 (by simp)
  have hF4 : Fr [] w (w3.alloc (.cells (fuCells ⟨fu.name, fu.params, edL ed fu.body j⟩ ⟨Ap2, cp2, A3, d3⟩) 81)) := (((hwM.trans f1).trans2 f2 (fun b hb => .inr (by simp at hb; omega))).trans f3).trans f4
  have hG4 := (((hG.fr0 f1).fr f2 (fun b hb => by simp at hb; omega) (fun b hb hr => by simp at hb; have := hrow _ hr; omega)).fr0 f3).fr0 f4
  have hop2 : w1.ownsRow (bx + 1) 9 1 (.slice Ap2 fu.params.length cp2) fu.params.length (fu.params.map .string) := by rw [← hMs]; simpa using hop
  have hU1 : RdS (fun b => b < bx + 1) w1 .string Ap2 cp2 fu.params := ⟨own_rd hop2 rfl rfl, fun _ a ha hb => own_apart hop2 (bp := a.block) hb a ha rfl⟩
  have hU : FuH (fun b => b < bx + 1) (n + nw) (w3.alloc (.cells (fuCells ⟨fu.name, fu.params, edL ed fu.body j⟩ ⟨Ap2, cp2, A3, d3⟩) 81)) ⟨Ap2, cp2, A3, d3⟩ ⟨fu.name, fu.params, edL ed fu.body j⟩ := ⟨((hU1.fr f2 (fun b hb => by simp at hb; omega)).fr0 f3).fr0 f4, (hL3.sub (fun b _ hb => by show b < _; omega)).fr0 f4⟩
  have hc4 : Cells (w3.alloc (.cells (fuCells ⟨fu.name, fu.params, edL ed fu.body j⟩ ⟨Ap2, cp2, A3, d3⟩) 81)) (some ⟨w3.heap.size, 0, none⟩) (fuL ⟨fu.name, fu.params, edL ed fu.body j⟩ ⟨Ap2, cp2, A3, d3⟩) := fun _ => ⟨w3.heap.size, 0, rfl, fun q u hu => by rw [Nat.zero_add]; exact hB4.cell q (by simpa using hu)⟩
  clear hB4 hop hop2 hgp hatp hU1 hL3 hL2 hE2 hO3 hBx3 hO2 hBx2 hG hO hE hRs hBx HP HL HBEL hd1 hd2 hcs hown hlc
  refine wpAnyP_ready (rs := [13]) (by kernel_rfl) (by simp) ?_; refine AllReadyP.cons rfl (fun K hK => ?_) AllReadyP.nil
  refine step_append_g rfl (.tmp 21) (.tmp 32) _ rfl elemFu (.slice B acc.length d) (flatU acc hs) ?b1 hG4.own (some ⟨w3.heap.size, 0, none⟩) 1 1 (fuL ⟨fu.name, fu.params, edL ed fu.body j⟩ ⟨Ap2, cp2, A3, d3⟩) ?b3 hc4 ?b5 (Nat.le_refl _) (fuL_one _ _) ?b8 ?b9 ?_
  case b1 => rfl
  case b3 => rfl
  case b5 => rfl
  case b8 => have := HAL.out; omega
  case b9 => simp; omega
  intro A6 c6 w6 ho6 hg6 hat6
  have hG6 := hG4.app (b0 := bx + 1) hU (fun b hb => by have := hrow b hb; omega) (fun b hb => by omega) (by simp; omega) hg6 ho6 (by simpa using hat6)
  have hne : ∀ q, q < rs + 3 ∨ bx ≤ q → some q ≠ (Value.slice B acc.length d).ownBlock := fun q hq e => by have := hrow _ (own_row e.symm); omega
  have hO6 := hO4.grown hg6 (hne _ (.inl (by omega)))
  have hBx6 := hBx4.grown hg6 (hne _ (.inr (Nat.le_refl _)))
  have hE6 := hE4.grown hg6 (hne _ (.inl (by omega)))
  have hRs6 := hRs4.grown hg6 (hne _ (.inl (by omega)))
  have s6 : w3.heap.size ≤ w6.heap.size := by have h6 := hg6.size; simp at h6; omega
  have hF6 : Fr [] w w6 := Fr.app hF4 hG4.own (by omega) hg6
  refine Shut.on hK (⟨hO6, hBx6⟩) (fun hHeld2 => ?_); clear hK K hHeld; have hHeld := hHeld2; clear hHeld2; try simp only [Act.put, lA, lZ, lS]
  clear hG4 hU hc4 ho6 hg6 hat6 hO4 hBx4 hE4 hRs4 hF4 hne
  refine tkP 14 ?_ (y := fun w hSw => ?_) (h := ?_)
  rotate_left 1
  ·(try dsimp only at hSw)
   go_simp
   try with_reducible rfl
  try simp only [Act.put, lA, lZ, lS]
  have o0 : w6.cell? ⟨rs + 1 + 1, 0, none⟩ = some (.slice B acc.length d) := hO6.cell 0 rfl
  have oz := hO6.frozen 0
  refine wpAnyP_ready (rs := [15]) (by kernel_rfl) (by simp) ?_; refine AllReadyP.cons rfl (fun K hK => ?_) AllReadyP.nil; go_simp
  refine Shut.end_ hK ?_; clear hK K; try simp only [Act.put, lA, lZ, lS]
  refine wpAnyP_done (by kernel_rfl) ?_ _
  go_wp2_with fail
  go_roundw
  case rel =>
   have fs6 := fr_put w6 (rs + 1 + 1) 0 (.slice A6 (acc.length + 1) c6)
   have hr6 : ∀ b, RowB A6 b → rs + 3 ≤ b := fun b ⟨a, ha, hab⟩ => by subst ha hab; exact (hG6.own.lt a.block rfl).1
   exact ⟨k + 1, by omega, by go_num, A6, c6, hs ++ [⟨Ap2, cp2, A3, d3⟩], by rw [HS1.out]; exact hG6.fr fs6 (fun b hb => by simp at hb; omega) (fun b hb hr => by simp at hb; have := hr6 _ hr; omega), by rw [HS1.out]; simpa using hO6.set_ 0 (.slice A6 (acc.length + 1) c6), by rw [HS2.out]; exact hE6.fr fs6 (by simp), hRs6.fr fs6 (by simp; omega), hF6.trans2 fs6 (fun b hb => .inr (by simp at hb; omega)), by have := fs6.size; omega⟩
  case measure => simp [intOf]; omega
end

/- What an edit does to sizes, texts, params: plain. -/
section
open Go.RowKit
set_option linter.unusedSimpArgs false
section
variable {ed : Nat → Nd → List Nd}
mutual
theorem edS_cnt {C : Nat} (h : ∀ i y, cntL (ed i y) ≤ y.cnt + C) : ∀ (x : Nd) (i : Nat), cntL (x.edS ed i) ≤ (C + 1) * x.cnt
  | .mk k t m s p b e, i => by
    rw [Nd.edS]
    have h0 := h i (.mk k t m (edE ed s (i + 1)) p (edL ed b (i + 1 + nuE s)) (edL ed e (i + 1 + nuE s + nuL b)))
    have h1 := edE_cnt h s (i + 1)
    have h2 := edL_cnt h b (i + 1 + nuE s)
    have h3 := edL_cnt h e (i + 1 + nuE s + nuL b)
    rw [Nd.cnt] at h0
    rw [Nd.cnt, Nat.mul_add, Nat.mul_add, Nat.mul_add, Nat.mul_one]
    omega
theorem edX_cnt {C : Nat} (h : ∀ i y, cntL (ed i y) ≤ y.cnt + C) : ∀ (x : Nd) (i : Nat), (x.edX ed i).cnt ≤ (C + 1) * x.cnt
  | .mk k t m s p b e, i => by
    rw [Nd.edX]
    have h1 := edE_cnt h s i
    have h2 : cntL (if k = 10 then edL ed b (i + nuE s) else b) ≤ (C + 1) * cntL b := by
      split
      · exact edL_cnt h b (i + nuE s)
      · rw [Nat.add_mul]
        omega
    have h3 : cntL e ≤ (C + 1) * cntL e := by rw [Nat.add_mul]; omega
    rw [Nd.cnt, Nd.cnt, Nat.mul_add, Nat.mul_add, Nat.mul_add, Nat.mul_one]
    omega
theorem edL_cnt {C : Nat} (h : ∀ i y, cntL (ed i y) ≤ y.cnt + C) : ∀ (l : List Nd) (i : Nat), cntL (edL ed l i) ≤ (C + 1) * cntL l
  | [], i => by rw [edL, cntL]; exact Nat.zero_le _
  | x :: l, i => by
    rw [edL, cntL_ap, cntL, Nat.mul_add]
    have := edS_cnt h x i
    have := edL_cnt h l (i + x.nuS)
    omega
theorem edE_cnt {C : Nat} (h : ∀ i y, cntL (ed i y) ≤ y.cnt + C) : ∀ (l : List Nd) (i : Nat), cntL (edE ed l i) ≤ (C + 1) * cntL l
  | [], i => by rw [edE, cntL]; exact Nat.zero_le _
  | x :: l, i => by
    rw [edE, cntL, cntL, Nat.mul_add]
    have := edX_cnt h x i
    have := edE_cnt h l (i + x.nuX)
    omega
end
theorem ppL_app {l m : List Nd} : ppL (l ++ m) ↔ ppL l ∧ ppL m := by
 induction l with
 | nil => simp [ppL]
 | cons x l ih => rw [List.cons_append, ppL, ppL, ih, and_assoc]
mutual
theorem edS_pp (h : ∀ i y, y.pp → ppL (ed i y)) : ∀ (x : Nd) (i : Nat), x.pp → ppL (x.edS ed i)
  | .mk k t m s p b e, i, hx => by
    rw [Nd.pp] at hx
    rw [Nd.edS]
    refine h i _ ?_
    rw [Nd.pp]
    exact ⟨hx.1, edE_pp h s _ hx.2.1, edL_pp h b _ hx.2.2.1, edL_pp h e _ hx.2.2.2⟩
theorem edX_pp (h : ∀ i y, y.pp → ppL (ed i y)) : ∀ (x : Nd) (i : Nat), x.pp → (x.edX ed i).pp
  | .mk k t m s p b e, i, hx => by
    rw [Nd.pp] at hx
    rw [Nd.edX, Nd.pp]
    refine ⟨hx.1, edE_pp h s _ hx.2.1, ?_, hx.2.2.2⟩
    split
    · exact edL_pp h b _ hx.2.2.1
    · exact hx.2.2.1
theorem edL_pp (h : ∀ i y, y.pp → ppL (ed i y)) : ∀ (l : List Nd) (i : Nat), ppL l → ppL (edL ed l i)
  | [], i, _ => by rw [edL, ppL]; trivial
  | x :: l, i, hl => by
    rw [ppL] at hl
    rw [edL, ppL_app]
    exact ⟨edS_pp h x i hl.1, edL_pp h l _ hl.2⟩
theorem edE_pp (h : ∀ i y, y.pp → ppL (ed i y)) : ∀ (l : List Nd) (i : Nat), ppL l → ppL (edE ed l i)
  | [], i, _ => by rw [edE, ppL]; trivial
  | x :: l, i, hl => by
    rw [ppL] at hl
    rw [edE, ppL]
    exact ⟨edX_pp h x i hl.1, edE_pp h l _ hl.2⟩
end
theorem txL_app {l m : List Nd} : txL (l ++ m) ↔ txL l ∧ txL m := by
 induction l with
 | nil => simp [txL]
 | cons x l ih => rw [List.cons_append, txL, txL, ih, and_assoc]
mutual
theorem edS_tx (h : ∀ i y, y.tx → txL (ed i y)) : ∀ (x : Nd) (i : Nat), x.tx → txL (x.edS ed i)
  | .mk k t m s p b e, i, hx => by
    rw [Nd.tx] at hx
    rw [Nd.edS]
    refine h i _ ?_
    rw [Nd.tx]
    exact ⟨hx.1, edE_tx h s _ hx.2.1, edL_tx h b _ hx.2.2.1, edL_tx h e _ hx.2.2.2⟩
theorem edX_tx (h : ∀ i y, y.tx → txL (ed i y)) : ∀ (x : Nd) (i : Nat), x.tx → (x.edX ed i).tx
  | .mk k t m s p b e, i, hx => by
    rw [Nd.tx] at hx
    rw [Nd.edX, Nd.tx]
    refine ⟨hx.1, edE_tx h s _ hx.2.1, ?_, hx.2.2.2⟩
    split
    · exact edL_tx h b _ hx.2.2.1
    · exact hx.2.2.1
theorem edL_tx (h : ∀ i y, y.tx → txL (ed i y)) : ∀ (l : List Nd) (i : Nat), txL l → txL (edL ed l i)
  | [], i, _ => by rw [edL, txL]; trivial
  | x :: l, i, hl => by
    rw [txL] at hl
    rw [edL, txL_app]
    exact ⟨edS_tx h x i hl.1, edL_tx h l _ hl.2⟩
theorem edE_tx (h : ∀ i y, y.tx → txL (ed i y)) : ∀ (l : List Nd) (i : Nat), txL l → txL (edE ed l i)
  | [], i, _ => by rw [edE, txL]; trivial
  | x :: l, i, hl => by
    rw [txL] at hl
    rw [edE, txL]
    exact ⟨edX_tx h x i hl.1, edE_tx h l _ hl.2⟩
end
end
def repE (n : Int) (wt : List Nd) (i : Nat) (x : Nd) : List Nd := if (i : Int) = n then wt else [x]
def keepE (kp : List Bool) (i : Nat) (x : Nd) : List Nd := if kp[i]?.getD false then [x] else []
theorem repE_cnt (n : Int) (wt : List Nd) (i : Nat) (x : Nd) : cntL (repE n wt i x) ≤ x.cnt + cntL wt := by
 unfold repE
 split
 ·omega
 ·rw [cntL, cntL]; omega
theorem keepE_cnt (kp : List Bool) (i : Nat) (x : Nd) : cntL (keepE kp i x) ≤ x.cnt + 0 := by
 unfold keepE
 split
 ·rw [cntL, cntL]; omega
 ·rw [cntL]; omega
theorem repE_len (n : Int) (wt : List Nd) (i : Nat) (x : Nd) : (repE n wt i x).length ≤ wt.length + 1 := by
 unfold repE
 split
 ·omega
 ·simp
theorem keepE_len (kp : List Bool) (i : Nat) (x : Nd) : (keepE kp i x).length ≤ 1 := by
 unfold keepE
 split <;> simp
theorem repE_pp {n : Int} {wt : List Nd} (h : ppL wt) (i : Nat) (x : Nd) (hx : x.pp) : ppL (repE n wt i x) := by
 unfold repE
 split
 ·exact h
 ·rw [ppL, ppL]; exact ⟨hx, trivial⟩
theorem keepE_pp {kp : List Bool} (i : Nat) (x : Nd) (hx : x.pp) : ppL (keepE kp i x) := by
 unfold keepE
 split
 ·rw [ppL, ppL]; exact ⟨hx, trivial⟩
 ·rw [ppL]; trivial
theorem repE_tx {n : Int} {wt : List Nd} (h : txL wt) (i : Nat) (x : Nd) (hx : x.tx) : txL (repE n wt i x) := by
 unfold repE
 split
 ·exact h
 ·rw [txL, txL]; exact ⟨hx, trivial⟩
theorem edF_tx {ed : Nat → Nd → List Nd} (h : ∀ i y, y.tx → txL (ed i y)) : ∀ (fs : List Fu) (i : Nat), TxF fs → TxF (edF ed fs i)
  | [], i, _ => by intro f hf; rw [edF] at hf; cases hf
  | g :: fs, i, hg => by
    intro f hf
    rw [edF] at hf
    rcases List.mem_cons.1 hf with rfl | hf
    · obtain ⟨h1, h2, h3⟩ := hg g (by simp)
      exact ⟨h1, h2, (txL_iff _).1 (edL_tx h _ _ ((txL_iff _).2 h3))⟩
    · exact edF_tx h fs _ (fun f hf => hg f (List.mem_cons_of_mem _ hf)) f hf
theorem edF_cnt {ed : Nat → Nd → List Nd} {C : Nat} (h : ∀ i y, cntL (ed i y) ≤ y.cnt + C) : ∀ (fs : List Fu) (i : Nat), cntF (edF ed fs i) ≤ (C + 1) * cntF fs
  | [], i => by rw [edF]; simp [cntF]
  | g :: fs, i => by
    rw [edF]
    have h1 := edL_cnt h g.body i
    have h2 := edF_cnt h fs (i + nuL g.body)
    unfold cntF at h2 ⊢
    rw [List.map_cons, List.sum_cons, List.map_cons, List.sum_cons, Nat.mul_add]
    dsimp only
    omega
theorem okB_pp : ∀ (x : Nd) (inFn : Bool), x.okB inFn = true → x.pp := by
  refine Nd.ind fun x hs hb he inFn h => ?_
  have hl : ∀ (l : List Nd) (ex f : Bool), (∀ y ∈ l, ∀ g, y.okB g = true → y.pp) → lsB ex f l = true → ppL l := by
    intro l
    induction l with
    | nil => intro _ _ _ _; rw [ppL]; trivial
    | cons y l ih =>
      intro ex f hy h
      rw [lsB] at h
      simp only [Bool.and_eq_true] at h
      rw [ppL]
      exact ⟨hy y (by simp) _ h.1.2, ih ex f (fun z hz => hy z (List.mem_cons_of_mem _ hz)) h.2⟩
  cases hr : ruleOf x.kind with
  | none => rw [Nd.okB_none hr] at h; cases h
  | some r =>
    rw [Nd.okB_some hr] at h
    simp only [Bool.and_eq_true] at h
    obtain ⟨h0, h1, h2, h3⟩ := h
    rw [Nd.pp_eq]
    refine ⟨?_, hl _ _ _ (fun y hy g => hs y hy g) h1, hl _ _ _ (fun y hy g => hb y hy g) h2, hl _ _ _ (fun y hy g => he y hy g) h3⟩
    unfold ownB at h0
    simp only [Bool.and_eq_true, Bool.or_eq_true, decide_eq_true_eq, Bool.not_eq_true'] at h0
    obtain ⟨⟨_, h4, _⟩, h5⟩ := h0
    rcases h4 with h4 | h4
    · rcases h5 with h5 | h5
      · rw [h4] at h5; cases h5
      · unfold paramsB at h5
        simp only [Bool.and_eq_true, decide_eq_true_eq] at h5
        omega
    · omega
theorem lsB_pp {ex f : Bool} {l : List Nd} (h : lsB ex f l = true) : ppL l := by
  induction l with
  | nil => rw [ppL]; trivial
  | cons y l ih =>
    rw [lsB] at h
    simp only [Bool.and_eq_true] at h
    rw [ppL]
    exact ⟨okB_pp y _ h.1.2, ih h.2⟩
end

/- An edit that brings well-formed statements keeps the form; numbers and kinds of statements: plain. -/
section
open Go.RowKit
set_option linter.unusedSimpArgs false
section
variable {ed : Nat → Nd → List Nd}
mutual
theorem edS_ok (h : ∀ i y f, kindB false y.kind = true → y.okB f = true → lsB false f (ed i y) = true) : ∀ (x : Nd) (i : Nat) (f : Bool), kindB false x.kind = true → x.okB f = true → lsB false f (x.edS ed i) = true
  | .mk k t m s p b e, i, f, hk, hx => by
    rw [Nd.edS]
    refine h i _ f hk ?_
    rw [Nd.okB] at hx ⊢
    cases hr : ruleOf k with
    | none => rw [hr] at hx; cases hx
    | some r =>
      rw [hr] at hx
      simp only [Bool.and_eq_true] at hx ⊢
      obtain ⟨h0, h1, h2, h3⟩ := hx
      refine ⟨?_, edE_ok h s _ f h1, edL_ok h b _ _ h2, edL_ok h e _ f h3⟩
      unfold ownB at h0 ⊢
      rw [edE_len]
      simp only [Bool.and_eq_true, Bool.or_eq_true, decide_eq_true_eq] at h0 ⊢
      obtain ⟨⟨h4, h5, h6, h7⟩, h8⟩ := h0
      refine ⟨⟨h4, h5, h6.imp id ?_, h7.imp id ?_⟩, h8⟩ <;> (intro h9; obtain rfl := List.eq_nil_of_length_eq_zero h9; rw [edL]; rfl)
theorem edX_ok (h : ∀ i y f, kindB false y.kind = true → y.okB f = true → lsB false f (ed i y) = true) : ∀ (x : Nd) (i : Nat) (f : Bool), x.okB f = true → (x.edX ed i).okB f = true
  | .mk k t m s p b e, i, f, hx => by
    rw [Nd.edX]
    rw [Nd.okB] at hx ⊢
    cases hr : ruleOf k with
    | none => rw [hr] at hx; cases hx
    | some r =>
      rw [hr] at hx
      simp only [Bool.and_eq_true] at hx ⊢
      obtain ⟨h0, h1, h2, h3⟩ := hx
      refine ⟨?_, edE_ok h s _ f h1, ?_, h3⟩
      · unfold ownB at h0 ⊢
        rw [edE_len]
        simp only [Bool.and_eq_true, Bool.or_eq_true, decide_eq_true_eq] at h0 ⊢
        obtain ⟨⟨h4, h5, h6, h7⟩, h8⟩ := h0
        refine ⟨⟨h4, h5, h6.imp id ?_, h7⟩, h8⟩
        intro h9
        obtain rfl := List.eq_nil_of_length_eq_zero h9
        split
        · rw [edL]; rfl
        · rfl
      · split
        · exact edL_ok h b _ _ h2
        · exact h2
theorem edL_ok (h : ∀ i y f, kindB false y.kind = true → y.okB f = true → lsB false f (ed i y) = true) : ∀ (l : List Nd) (i : Nat) (f : Bool), lsB false f l = true → lsB false f (edL ed l i) = true
  | [], i, f, _ => by rw [edL]; rfl
  | x :: l, i, f, hl => by
    rw [lsB] at hl
    simp only [Bool.and_eq_true] at hl
    rw [edL, lsB_app, Bool.and_eq_true]
    exact ⟨edS_ok h x i f hl.1.1 hl.1.2, edL_ok h l _ f hl.2⟩
theorem edE_ok (h : ∀ i y f, kindB false y.kind = true → y.okB f = true → lsB false f (ed i y) = true) : ∀ (l : List Nd) (i : Nat) (f : Bool), lsB true f l = true → lsB true f (edE ed l i) = true
  | [], i, f, _ => by rw [edE]; rfl
  | x :: l, i, f, hl => by
    rw [lsB] at hl
    simp only [Bool.and_eq_true] at hl
    rw [edE, lsB]
    simp only [Bool.and_eq_true]
    refine ⟨⟨?_, edX_ok h x i f hl.1.2⟩, edE_ok h l _ f hl.2⟩
    rw [Nd.edX_eq]
    exact hl.1.1
end
mutual
theorem edS_dep (h : ∀ i y, depL (ed i y) ≤ y.dep) : ∀ (x : Nd) (i : Nat), depL (x.edS ed i) ≤ x.dep
  | .mk k t m s p b e, i => by
    rw [Nd.edS]
    refine Nat.le_trans (h i _) ?_
    rw [Nd.dep, Nd.dep]
    have := edE_dep h s (i + 1)
    have := edL_dep h b (i + 1 + nuE s)
    have := edL_dep h e (i + 1 + nuE s + nuL b)
    omega
theorem edX_dep (h : ∀ i y, depL (ed i y) ≤ y.dep) : ∀ (x : Nd) (i : Nat), (x.edX ed i).dep ≤ x.dep
  | .mk k t m s p b e, i => by
    rw [Nd.edX, Nd.dep, Nd.dep]
    have := edE_dep h s i
    have h2 : depL (if k = 10 then edL ed b (i + nuE s) else b) ≤ depL b := by
      split
      · exact edL_dep h b _
      · exact Nat.le_refl _
    omega
theorem edL_dep (h : ∀ i y, depL (ed i y) ≤ y.dep) : ∀ (l : List Nd) (i : Nat), depL (edL ed l i) ≤ depL l
  | [], i => by rw [edL]; exact Nat.le_refl _
  | x :: l, i => by
    rw [edL, depL_app, depL]
    have := edS_dep h x i
    have := edL_dep h l (i + x.nuS)
    omega
theorem edE_dep (h : ∀ i y, depL (ed i y) ≤ y.dep) : ∀ (l : List Nd) (i : Nat), depL (edE ed l i) ≤ depL l
  | [], i => by rw [edE]; exact Nat.le_refl _
  | x :: l, i => by
    rw [edE, depL, depL]
    have := edX_dep h x i
    have := edE_dep h l (i + x.nuX)
    omega
end
theorem depF_le' {fs gs : List Fu} (h : fs.length = gs.length) (hd : ∀ (k : Nat) (f g : Fu), fs[k]? = some f → gs[k]? = some g → depL f.body ≤ depL g.body) : depF fs ≤ depF gs := by
  unfold depF
  suffices ∀ (fs gs : List Fu) (a b : Nat), a ≤ b → fs.length = gs.length → (∀ (k : Nat) (f g : Fu), fs[k]? = some f → gs[k]? = some g → depL f.body ≤ depL g.body) → fs.foldl (fun d f => max d (depL f.body)) a ≤ gs.foldl (fun d f => max d (depL f.body)) b from this fs gs 0 0 (Nat.le_refl _) h hd
  intro fs
  induction fs with
  | nil => intro gs a b hab h _; cases gs with
    | nil => exact hab
    | cons g gs => simp at h
  | cons f fs ih =>
    intro gs a b hab h hd
    cases gs with
    | nil => simp at h
    | cons g gs =>
      simp only [List.foldl_cons]
      exact ih gs _ _ (by have := hd 0 f g rfl rfl; omega) (by simpa using h) (fun k f g h1 h2 => hd (k + 1) f g (by simpa using h1) (by simpa using h2))
theorem edF_at : ∀ (fs : List Fu) (i k : Nat) (f : Fu), fs[k]? = some f → ∃ j, (edF ed fs i)[k]? = some ⟨f.name, f.params, edL ed f.body j⟩
  | [], i, k, f, h => by simp at h
  | g :: fs, i, 0, f, h => by simp at h; subst h; rw [edF]; exact ⟨i, rfl⟩
  | g :: fs, i, k + 1, f, h => by
    rw [edF]
    obtain ⟨j, hj⟩ := edF_at fs (i + nuL g.body) k f (by simpa using h)
    exact ⟨j, by simpa using hj⟩
theorem shape_iff {fs : List Fu} : shapeP fs = 0 ↔ fs.length ≤ 16 ∧ cntF fs ≤ 1024 ∧ depF fs ≤ 24 ∧ ∀ f ∈ fs, fuB f = true := by
 unfold shapeP
 split
 ·constructor
  ·intro h; exact absurd h (by decide)
  ·intro h; omega
 ·split
  ·constructor
   ·intro h; exact absurd h (by decide)
   ·intro h; omega
  ·split
   ·rename_i h
    exact ⟨fun _ => ⟨by omega, by omega, by omega, List.all_eq_true.1 h⟩, fun _ => rfl⟩
   ·rename_i h
    exact ⟨fun h => absurd h (by decide), fun h2 => absurd (List.all_eq_true.2 h2.2.2.2) h⟩
theorem shape_ed (h : ∀ i y f, kindB false y.kind = true → y.okB f = true → lsB false f (ed i y) = true) (hd : ∀ i y, depL (ed i y) ≤ y.dep) (hc : ∀ i y, cntL (ed i y) ≤ y.cnt + 0) {fs : List Fu} (hs : shapeP fs = 0) (i : Nat) : shapeP (edF ed fs i) = 0 := by
 obtain ⟨h1, h2, h3, h4⟩ := shape_iff.1 hs
 refine shape_iff.2 ⟨by rw [edF_len]; exact h1, ?_, Nat.le_trans (depF_le' (edF_len _ _ _) fun k f g hf hg => ?_) h3, fun f hf => ?_⟩
 ·have := edF_cnt hc fs i
  omega
 ·obtain ⟨j, hj⟩ := edF_at (ed := ed) fs i k g hg
  rw [hj] at hf
  injection hf with hf
  subst hf
  exact edL_dep hd _ _
 ·obtain ⟨k, hk, rfl⟩ := List.getElem_of_mem hf
  have hkl : k < fs.length := by rw [edF_len] at hk; exact hk
  obtain ⟨j, hj⟩ := edF_at (ed := ed) fs i k _ (List.getElem?_eq_getElem hkl)
  rw [List.getElem?_eq_getElem hk] at hj
  injection hj with hj
  rw [hj]
  have h5 := h4 fs[k] (by simp)
  unfold fuB at h5 ⊢
  simp only [Bool.and_eq_true] at h5 ⊢
  exact ⟨⟨h5.1.1, h5.1.2⟩, edL_ok h _ _ _ h5.2⟩
end
abbrev Kt := Int × ByteArray × Nat
mutual
def Nd.ktS : Nd → List Kt
 | .mk k t m s p b e => (k, t, s.length) :: (ktE s ++ ktL b ++ ktL e)
def Nd.ktX : Nd → List Kt
 | .mk k t m s p b e => ktE s ++ (if k = 10 then ktL b else [])
def ktL : List Nd → List Kt
 | [] => []
 | x :: l => x.ktS ++ ktL l
def ktE : List Nd → List Kt
 | [] => []
 | x :: l => x.ktX ++ ktE l
end
abbrev ktP (p : Plc) : Kt := (p.1.kind, p.1.text, p.1.subs.length)
mutual
theorem plS_kt : ∀ (x : Nd) (i : Nat) (sp : Spt), (x.plS i sp).map ktP = x.ktS ∧ (x.plS i sp).length = x.nuS
  | .mk k t m s p b e, i, sp => by
    rw [Nd.plS, Nd.ktS, Nd.nuS]
    try dsimp only
    simp only [List.map_cons, List.map_append, List.length_cons, List.length_append]
    rw [(plE_kt s _ _).1, (plL_kt b _ _ _).1, (plL_kt e _ _ _).1, (plE_kt s _ _).2, (plL_kt b _ _ _).2, (plL_kt e _ _ _).2]
    exact ⟨rfl, by omega⟩
theorem plX_kt : ∀ (x : Nd) (i : Nat) (sp : Spt), (x.plX i sp).map ktP = x.ktX ∧ (x.plX i sp).length = x.nuX
  | .mk k t m s p b e, i, sp => by
    rw [Nd.plX, Nd.ktX, Nd.nuX]
    try dsimp only
    simp only [List.map_append, List.length_append]
    rw [(plE_kt s _ _).1, (plE_kt s _ _).2]
    split
    · rw [(plL_kt b _ _ _).1, (plL_kt b _ _ _).2]; exact ⟨rfl, rfl⟩
    · exact ⟨rfl, rfl⟩
theorem plL_kt : ∀ (l : List Nd) (i : Nat) (sp : Spt) (j : Nat), (plL l i sp j).map ktP = ktL l ∧ (plL l i sp j).length = nuL l
  | [], i, sp, j => by rw [plL, ktL, nuL]; exact ⟨rfl, rfl⟩
  | x :: l, i, sp, j => by
    rw [plL, ktL, nuL]
    simp only [List.map_append, List.length_append]
    rw [(plS_kt x _ _).1, (plL_kt l _ _ _).1, (plS_kt x _ _).2, (plL_kt l _ _ _).2]
    exact ⟨rfl, rfl⟩
theorem plE_kt : ∀ (l : List Nd) (i : Nat) (sp : Spt), (plE l i sp).map ktP = ktE l ∧ (plE l i sp).length = nuE l
  | [], i, sp => by rw [plE, ktE, nuE]; exact ⟨rfl, rfl⟩
  | x :: l, i, sp => by
    rw [plE, ktE, nuE]
    simp only [List.map_append, List.length_append]
    rw [(plX_kt x _ _).1, (plE_kt l _ _).1, (plX_kt x _ _).2, (plE_kt l _ _).2]
    exact ⟨rfl, rfl⟩
end
theorem ktL_app (l m : List Nd) : ktL (l ++ m) = ktL l ++ ktL m := by
 induction l with
 | nil => rw [List.nil_append, ktL, List.nil_append]
 | cons x l ih => rw [List.cons_append, ktL, ktL, ih, List.append_assoc]
def ktF (fs : List Fu) : List Kt := (fs.map fun f => ktL f.body).flatten
theorem plF_kt : ∀ (fs : List Fu) (i j : Nat), (plF i j fs).map ktP = ktF fs ∧ (plF i j fs).length = nuF fs
  | [], i, j => by rw [plF]; exact ⟨rfl, rfl⟩
  | f :: fs, i, j => by
    have h1 : ktF (f :: fs) = ktL f.body ++ ktF fs := by simp [ktF]
    have h2 : nuF (f :: fs) = nuL f.body + nuF fs := by simp [nuF]
    rw [plF, h1, h2]
    simp only [List.map_append, List.length_append]
    rw [(plL_kt f.body _ _ _).1, (plF_kt fs _ _).1, (plL_kt f.body _ _ _).2, (plF_kt fs _ _).2]
    exact ⟨rfl, rfl⟩
end

end Go.Proofs.YtchldahkcpbgcaaGreatDoor
