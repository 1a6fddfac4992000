/- Texts of this seat, one behind the other: WlkC, Cou, Fnd, Whr. -/
import Derived.Test.YtchldahkcpbgcaaGreatDoorsk29
import Derived.Test.YtchldahkcpbgcaaGreatDoorsk22
import Derived.Laws.EntriesVeiled
import Derived.Test.YtchldahkcpbgcaaGreatDoorsk27
namespace Go.Proofs.YtchldahkcpbgcaaGreatDoor
set_option linter.unusedVariables false

/- all of the program: the iterator over a program's statements. -/
section
open Go Go.RowKit
set_option linter.unusedSimpArgs false
theorem walks_ok : ∀ n, ExprsOkW n ∧ ListOkW n
  | 0 => ⟨fun l J Jx B0 f N Wb Sb S wb at0 A c ns sp W _ h => absurd h id, fun l J Jx B0 f N Wb Sb S wb at0 A c ns sp W _ h => absurd h id⟩
  | n + 1 => by
    obtain ⟨h1, h2⟩ := walks_ok n
    exact ⟨exprs_stepW n h1 h2, list_stepW n h1 h2⟩
section
variable {f : Nat → Array Value} {k : Nat} {fs : List Fu} {x : Fu} {W : World} {A : Option Addr}
abbrev fuSp (k : Nat) : Spt := { func := k, fn := false, parent := -1, part := 0, index := 0, size := 0 }
theorem F_take (h : Hid (fs[k]? = some x)) : (plF 0 0 (fs.take (k + 1))).length = (plF 0 0 (fs.take k)).length + (plL x.body (plF 0 0 (fs.take k)).length (fuSp k) 0).length := by
 have hk : (fs.take k).length = k := by
  have := (List.getElem?_eq_some_iff.1 h.out).1
  simp
  omega
 rw [take_at h, plF_app, List.length_append, hk]
 simp [plF]
theorem F_le (fs : List Fu) (k : Nat) : (plF 0 0 (fs.take k)).length ≤ (plF 0 0 fs).length := by
 conv => rhs; rw [← List.take_append_drop k fs, plF_app, List.length_append]
 omega
theorem seg_F (h : Hid (fs[k]? = some x)) (hs : Seg f 0 (plF 0 0 fs) (adF W A 0 fs)) : Seg f (plF 0 0 (fs.take k)).length (plL x.body (plF 0 0 (fs.take k)).length (fuSp k) 0) (adL x.body W (slA W (fuA A k) 2) 0) := by
 have hk : (fs.take k).length = k := by
  have := (List.getElem?_eq_some_iff.1 h.out).1
  simp
  omega
 have e := split_at h.out
 rw [e, plF_app, adF_app, hk, Nat.zero_add, Nat.zero_add] at hs
 have h1 := (Seg.app (adF_len _ _ _ _ _ _) hs).2
 rw [plF, adF, Nat.zero_add] at h1
 exact (Seg.app (adL_len _ _ _ _ _ _ _) h1).1
theorem cntF_mem (h : x ∈ fs) : cntL x.body ≤ cntF fs := by
 obtain ⟨a, b, rfl⟩ := List.append_of_mem h
 simp [cntF]
 omega
end
theorem all_any (p : Nat) (w : World) : Calls Tryz.prog 96 #[.pointer (some ⟨p, 0, none⟩)] w fun e w' => e = .returned (.func (.func 151) #[] #[.pointer (some ⟨w.heap.size, 0, none⟩)]) ∧ w' = w.alloc (.cells #[.pointer (some ⟨p, 0, none⟩)] 125) := by
 have hmf : ∀ (fn : Fn) (first cap : Array Value) (w : World), (Instr.makeFunc fn first cap).run Tryz.prog w = .ok (.func fn first cap) w := fun _ _ _ _ => rfl
 go_enter Tryz.func96, Tryz.ntmps96
 go_wp2
 go_ret
 exact ⟨rfl, rfl⟩
set_option maxRecDepth 20000 in
set_option maxHeartbeats 3200000 in
theorem all_gives (bx p : Nat) (A : Option Addr) (c : Nat) (fs : List Fu) (S : Nat → Prop) (n : Nat) (Wb : World) (Sb : List Nat) (h : RF S n Wb A c fs) (hb : cntF fs ≤ 1000000000) (hSb : ∀ z ∈ Sb, S z)
  (hbx : Wb.cell? ⟨bx, 0, none⟩ = some (.pointer (some ⟨p, 0, none⟩))) (hp : Wb.cell? ⟨p, 0, none⟩ = some (.slice A fs.length c)) (hbS : bx ∉ Sb) (hpS : p ∉ Sb) :
  Gives2 Tryz.prog 151 #[.pointer (some ⟨bx, 0, none⟩)] (seqF (placesP fs) (adF Wb A 0 fs)) (placesP fs).length (fun W => Fr Sb Wb W) := by
 intro l J Jx W0 aJ aX hC hCx hY h0
 have hlen := h.bound
 have hN := plF_le fs 0 0
 have HSEG : Hid (Seg (seqF (placesP fs) (adF Wb A 0 fs)) 0 (plF 0 0 fs) (adF Wb A 0 fs)) := seqF_seg _ _
 have HY : Hid (Plays l J Jx W0.heap.size (seqF (placesP fs) (adF Wb A 0 fs)) (placesP fs).length Wb Sb) := ⟨aJ, aX, hC, hCx, hY⟩
 have HN : Hid ((placesP fs).length = (plF 0 0 fs).length) := rfl
 clear aJ aX hC hCx hY
 generalize seqF (placesP fs) (adF Wb A 0 fs) = f at *
 generalize (placesP fs).length = N at *
 refine callsIn_wide.2 ?_
 obtain ⟨V, hV⟩ : ∃ V, V = W0.alloc (.cells #[.int .i64 0, .func (.yield l) #[] #[], .bool false] 208) := ⟨_, rfl⟩
 have hf0 : Fr [] W0 V := by rw [hV]; exact (Fr.refl _ _).alloc _
 have hB : Blk V W0.heap.size 208 (wkC l 0 false) := by rw [hV]; exact Blk.new _ _ _ _ rfl
 have hst : StW l J Jx W0.heap.size 0 V := .inl ⟨HY.out.aJ _ _ _ _ h0 hf0 (by simp), hB⟩
 have hfb := hst.base HY.out
 have b0 := hfb.cell hbx hbS
 have p0 := hfb.cell hp hpS
 have HV := Lib.hid hV.symm
 clear hV hB h0
 go_enter Tryz.func151, Tryz.ntmps151
 go_upto_region 1 with fail
 rw [HV.out]
 go_wp2_with fail
 go_loopw [12] (fun i wr => ∃ k : Nat, k ≤ fs.length ∧ i = .int .i64 k ∧ StW l J Jx W0.heap.size (plF 0 0 (fs.take k)).length wr) (fun i _ => fs.length - (intOf i).toNat)
 case atStart => exact ⟨0, Nat.zero_le _, rfl, by simpa [plF] using hst⟩
 case round =>
  clear hst b0 p0 hfb
  obtain ⟨k, hk, rfl, hst⟩ := hrel
  by_cases hlt : k < fs.length
  ·have hfb := hst.base HY.out
   have b0 := hfb.cell hbx hbS
   have p0 := hfb.cell hp hpS
   obtain ⟨b, off, fu, Ap, cp, Ab, cb, rfl, hx, f0, f1, f2, hP, hL, hbS2⟩ := h.at_ hlt
   have hsg := seg_F hx HSEG.out
   have hslA : slA Wb (fuA (some ⟨b, off, none⟩) k) 2 = Ab := slA_at (o := off + k * 3) f2
   rw [hslA] at hsg
   have c2 := hfb.cell f2 (fun hm => hbS2 (hSb _ hm))
   have HT := Lib.hid (F_take hx)
   have hle := F_le fs (k + 1)
   rw [HT.out] at hle
   have hcm := cntF_mem (List.mem_of_getElem? hx.out)
   have hki : (k : Int) < fs.length := by omega
   have hNo := HN.out
   obtain ⟨ak, hak⟩ : ∃ ak, (plF 0 0 (fs.take k)).length = ak := ⟨_, rfl⟩
   rw [hak] at hst hsg HT hle
   go_wp2_with fail
   refine ((walks_ok n).2 l J Jx W0.heap.size f N Wb Sb S W0.heap.size ak Ab cb fu.body (fuSp k) _ HY.out hL hSb (by omega) (by omega) (Nat.le_refl _) (hst.fr0 HY.out frx) hsg (by omega)).mono ?_
   rintro e w3 ⟨⟨⟨v, rfl⟩, hst3⟩, Z3, hf3, hZ3⟩
   clear hsg c2 b0 p0
   go_wp2_with fail
   go_roundw
   case rel => exact ⟨k + 1, by omega, by go_num, by rw [HT.out]; exact hst3⟩
   case measure => simp [intOf]; omega
  ·rw [List.take_of_length_le (by omega), ← HN.out] at hst
   go_wp2
   go_end0
   exact ⟨⟨_, rfl⟩, hst.elim (fun h => .inl h.1) (fun h => .inr h.1)⟩
end

/- Count of the program. -/
section
open Go Go.RowKit Go.Shelf
set_option linter.unusedSimpArgs false
attribute [local go_sem] Oper.semAt_some
theorem two_vals {v : Array Value} (h : v.size = 2) : ∃ a b, v = #[a, b] := by
 obtain ⟨l⟩ := v
 match l, h with
 | [a, b], _ => exact ⟨a, b, rfl⟩
set_option maxRecDepth 20000 in
set_option maxHeartbeats 3200000 in
theorem Count_any (A : Option Addr) (c : Nat) (fs : List Fu) (S : Nat → Prop) (n : Nat) (w : World) (h : RF S n w A c fs) (hb : cntF fs ≤ 1000000000) (ht : TxF fs) :
  Calls Tryz.prog 29 #[.agg #[.slice A fs.length c]] w (RetV w (.int .i64 (countP fs))) := by
 obtain ⟨W, hW⟩ : ∃ W, W = w.alloc (.cells #[.slice A fs.length c] 25) := ⟨_, rfl⟩
 have hf0 : Fr [] w W := by rw [hW]; exact (Fr.refl _ _).alloc _
 have hB : Blk W w.heap.size 25 #[.slice A fs.length c] := by rw [hW]; exact Blk.new _ _ _ _ rfl
 have q0 : W.cell? ⟨w.heap.size, 0, none⟩ = some (.slice A fs.length c) := hB.cell 0 rfl
 have HW := Lib.hid hW.symm
 have HSH := Lib.hid (Shape_any A c fs S n W (h.fr0 hf0) hb ht)
 have hnN := plF_le fs 0 0
 have hwW := hB.lt
 clear hW
 refine calls_of_wpR Tryz.func29 rfl ?_
 simp only [Tryz.ntmps29, List.size_toArray, List.length_cons, List.length_nil, Nat.reduceAdd, Nat.reduceSub, Array.replicate_succ, Array.replicate_zero, List.push_toArray, List.append_toArray, List.nil_append, List.cons_append]
 refine wpR_seq (wpR_of_wp ?_)
 go_wp2
 rw [HW.out]
 refine wpR_seq (wpR_of_wp ?_)
 by_cases hs : shapeP fs = 0
 ·have HC : Hid (countP fs = (placesP fs).length) := Lib.hid (by unfold countP; rw [if_pos hs])
  rw [hs] at HSH
  go_wp2_with fail
  refine HSH.out.mono ?_
  rintro e w1 ⟨rfl, hf1⟩
  have hB1 := hB.fr hf1 (by simp)
  have hz1 := hf1.size
  go_wp2_with fail
  refine wpR_seq (wpR_of_wp ?_)
  go_wp2_with fail
  refine wpR_seq (wpR_seq (wpR_of_wp ?_))
  go_wp2_with fail
  refine (all_any w.heap.size _).mono ?_
  rintro e w2 ⟨rfl, rfl⟩
  go_wp2_with fail
  refine wpR_block ?_
  obtain ⟨q, hq⟩ : ∃ q, q = w1.heap.size := ⟨_, rfl⟩
  obtain ⟨Wb, hWb⟩ : ∃ Wb, Wb = (w1.alloc (.cells #[.int .i64 0] 3)).alloc (.cells #[.pointer (some ⟨w.heap.size, 0, none⟩)] 125) := ⟨_, rfl⟩
  have hf2 : Fr [] w1 Wb := by rw [hWb]; exact ((Fr.refl _ _).alloc _).alloc _
  have hQ : Blk Wb q 3 #[.int .i64 0] := by rw [hWb]; exact (Blk.new _ _ _ _ hq).alloc _
  have hX : Blk Wb (q + 1) 125 #[.pointer (some ⟨w.heap.size, 0, none⟩)] := by rw [hWb]; exact Blk.new _ _ _ _ (by simp [hq])
  have hB2 := hB1.fr hf2 (by simp)
  have hFb := (hf0.trans hf1).trans hf2
  have hRb : RF (fun b => b = q) n Wb A c fs := (h.sub fun k hk e => by omega).fr0 hFb
  have hqz := hQ.lt
  have HG := Lib.hid (all_gives (q + 1) w.heap.size A c fs _ n Wb [q] hRb hb (by simp) (hX.cell 0 rfl) (hB2.cell 0 rfl) (by simp) (by simp; omega))
  have hsz : (w1.alloc (.cells #[.int .i64 0] 3)).heap.size = q + 1 := by simp [hq]
  try simp only [World.size_alloc]
  rw [← hq]
  have HQQ := Lib.hid hq
  have HWb := Lib.hid hWb.symm
  clear hWb hsz hq
  have hent : ∀ args w, (callFunc 151 args).run Tryz.prog w = .ok (.enter 151 args) w := fun args w => by simp [go_sem]
  have HNN : Hid ((placesP fs).length = (plF 0 0 fs).length) := rfl
  have HSZ := Lib.hid (fun k => seqF_size (placesP fs) (adF Wb A 0 fs) k)
  generalize seqF (placesP fs) (adF Wb A 0 fs) = f at *
  obtain ⟨N, hN⟩ : ∃ N, (placesP fs).length = N := ⟨_, rfl⟩
  rw [hN] at HG HC HNN
  have hNb : N ≤ 1000000000 := by have := HNN.out; omega
  clear hN
  rw [HWb.out]
  have habs : ∀ (k : Nat) (W W' : World) (Z : List Nat), (k ≤ N ∧ Fr [q] Wb W ∧ Blk W q 3 #[.int .i64 k]) → Fr Z W W' → (∀ z ∈ Z, Wb.heap.size ≤ z) → (k ≤ N ∧ Fr [q] Wb W' ∧ Blk W' q 3 #[.int .i64 k]) := fun k W W' Z h1 hf hz =>
   ⟨h1.1, h1.2.1.trans2 hf (fun x hx => .inr (hz x hx)), h1.2.2.fr hf (fun hm => by have := hz _ hm; omega)⟩
  refine wpR_rangeFunc2 rfl hent (fun k => HSZ.out k) HG.out (fun k W => k ≤ N ∧ Fr [q] Wb W ∧ Blk W q 3 #[.int .i64 k]) (fun _ _ => False) Wb.heap.size rfl habs (fun _ _ _ _ h _ _ => h) (fun k W h => h.2.1) (fun _ _ h => h.elim) (fun W hf => ⟨Nat.zero_le _, hf.mono (by simp), hQ.fr hf (by simp)⟩) ?_ ?_ (fun _ _ h _ => h.elim)
  ·intro k W hk ⟨h1, h2, h3⟩ hnc
   obtain ⟨v1, v2, hv⟩ := two_vals (HSZ.out k)
   rw [hv]
   have hz2 := h2.size
   gi_wp2
   refine ⟨Fr.refl _ _, fun W2 hf2 hnc2 => ?_⟩
   have h4 := h3.fr hf2 (by simp; omega)
   have h5 := h2.trans2 hf2 (fun x hx => by simp at hx; subst hx; exact .inr (by omega))
   have c0 : W2.cell? ⟨q, 0, none⟩ = some (.int .i64 k) := h4.cell 0 rfl
   have cz := h4.frozen 0
   have hki : (k : Int) ≤ 1000000000 := by omega
   gi_wp2
   exact ⟨⟨[q], (Fr.refl _ _).setCell (.inl (by simp)) _, by simp; exact hqz⟩, by omega, h5.setCell (p := ⟨q, 0, none⟩) (.inl (by simp)) _, h4.set_ 0 (.int .i64 ((k : Int) + 1))⟩
  ·rintro W ⟨h1, h2, h3⟩ hd
   have c0 : W.cell? ⟨q, 0, none⟩ = some (.int .i64 N) := h3.cell 0 rfl
   refine wpR_of_wp ?_
   go_wp2
   refine leaves_marks .returning (by simp) [Wb.heap.size] W (by simp) (by simpa using hd) fun W' hf' => ?_
   refine ⟨_, results_tmp rfl _ _ _, ?_⟩
   rw [HC.out]
   exact ⟨rfl, (hFb.trans2 h2 (fun x hx => by simp at hx; subst hx; have := HQQ.out; have := hf1.size; have := hf0.size; exact .inr (by omega))).trans2 hf' (fun x hx => by simp at hx; subst hx; have := hFb.size; exact .inr (by omega))⟩
 ·have HC : Hid (countP fs = 0) := Lib.hid (by unfold countP; rw [if_neg hs])
  have hne : (shapeP fs != 0) = true := by simpa using hs
  generalize shapeP fs = sp at *
  clear hs
  go_wp2_with fail
  refine HSH.out.mono ?_
  rintro e w1 ⟨rfl, hf1⟩
  go_wp2
  refine leaves_marks .returning (by simp) [] w1 (by simp) (by simp) fun W' hf' => ?_
  refine ⟨_, results_tmp rfl _ _ _, ?_⟩
  rw [HC.out]
  exact ⟨rfl, (hf0.trans hf1).trans hf'⟩
end

/- find, Where of the program. -/
section
open Go Go.RowKit Go.Shelf
set_option linter.unusedSimpArgs false
attribute [local go_sem] Oper.semAt_some
def findP (fs : List Fu) (n : Int) : Option Plc := if 0 ≤ n then (placesP fs)[n.toNat]? else none
abbrev zeroPl : Array Value := #[.pointer none, .int .i64 0, .bool false, .int .i64 0, .int .i64 0, .int .i64 0, .int .i64 0]
def RetFind (w : World) (A : Option Addr) (fs : List Fu) (n : Int) (e : Ending) (w' : World) : Prop :=
 Fr [] w w' ∧ (if shapeP fs ≠ 0 then e = .returned (.tuple #[.agg zeroPl, .int .i64 (shapeP fs)]) else
  match findP fs n with
  | some p => ∃ a Wb, Fr [] w Wb ∧ (adF Wb A 0 fs)[n.toNat]? = some a ∧ e = .returned (.tuple #[.agg (plC a p.2), .int .i64 0])
  | none => e = .returned (.tuple #[.agg zeroPl, .int .i64 7]))
theorem seqF_at {ps : List Plc} {qs : List Addr} (hl : qs.length = ps.length) {k : Nat} (hk : k < ps.length) : ∃ p a, ps[k]? = some p ∧ qs[k]? = some a ∧ seqF ps qs k = plV k a p.2 := by
 refine ⟨ps[k], qs[k], List.getElem?_eq_getElem hk, List.getElem?_eq_getElem (by omega), ?_⟩
 unfold seqF
 rw [List.getElem?_eq_getElem hk, List.getElem?_eq_getElem (by omega)]
theorem results_find {fn : Func} {p q : Tmp} (h : fn.results = #[.cell p 122, .cell q 26]) (tmps : Array Value) (w : World) (g b : Nat) {a0 a1 a2 a3 a4 a5 a6 v : Value} (hp : tmps.getD p undef = .pointer (some ⟨g, 0, none⟩)) (hq : tmps.getD q undef = .pointer (some ⟨b, 0, none⟩))
  (hb : Blk w g 122 #[a0, a1, a2, a3, a4, a5, a6]) (he : Blk w b 26 #[v]) : (results fn tmps).run Tryz.prog w = .ok (.tuple #[.agg #[a0, a1, a2, a3, a4, a5, a6], v]) w := by
 have c0 := hb.cell 0 rfl
 have c1 := hb.cell 1 rfl
 have c2 := hb.cell 2 rfl
 have c3 := hb.cell 3 rfl
 have c4 := hb.cell 4 rfl
 have c5 := hb.cell 5 rfl
 have c6 := hb.cell 6 rfl
 have d0 := he.cell 0 rfl
 simp only [Array.getD_eq_getD_getElem?] at hp hq
 simp [results, h, go_sem, hp, hq, c0, c1, c2, c3, c4, c5, c6, d0]
set_option maxRecDepth 20000 in
set_option maxHeartbeats 6400000 in
theorem find_any (pb : Nat) (m : Int) (A : Option Addr) (c : Nat) (fs : List Fu) (S : Nat → Prop) (n : Nat) (w : World) (hpb : Blk w pb 25 #[.slice A fs.length c]) (h : RF S n w A c fs) (hb : cntF fs ≤ 1000000000) (ht : TxF fs) :
  Calls Tryz.prog 93 #[.pointer (some ⟨pb, 0, none⟩), .int .i64 m] w (RetFind w A fs m) := by
 obtain ⟨bn, hbn⟩ : ∃ b, b = w.heap.size := ⟨_, rfl⟩
 obtain ⟨W, hW⟩ : ∃ W, W = ((w.alloc (.cells #[.int .i64 m] 3)).alloc (.cells zeroPl 122)).alloc (.cells #[.int .i64 0] 26) := ⟨_, rfl⟩
 have hf0 : Fr [] w W := by rw [hW]; exact (((Fr.refl _ _).alloc _).alloc _).alloc _
 have hN0 : Blk W bn 3 #[.int .i64 m] := by rw [hW]; exact ((Blk.new _ _ _ _ hbn).alloc _).alloc _
 have hP0 : Blk W (bn + 1) 122 zeroPl := by rw [hW]; exact (Blk.new _ _ _ _ (by simp [hbn])).alloc _
 have hE0 : Blk W (bn + 1 + 1) 26 #[.int .i64 0] := by rw [hW]; exact Blk.new _ _ _ _ (by simp [hbn])
 have hG0 := hpb.fr hf0 (by simp)
 have g0 : W.cell? ⟨pb, 0, none⟩ = some (.slice A fs.length c) := hG0.cell 0 rfl
 have hpl := hpb.lt
 have hEl := hE0.lt
 have HW := Lib.hid hW.symm
 have HBN := Lib.hid hbn
 have HSH := Lib.hid (Shape_any A c fs S n W (h.fr0 hf0) hb ht)
 have hnN := plF_le fs 0 0
 clear hW
 refine calls_of_wpR Tryz.func93 rfl ?_
 simp only [Tryz.ntmps93, List.size_toArray, List.length_cons, List.length_nil, Nat.reduceAdd, Nat.reduceSub, Array.replicate_succ, Array.replicate_zero, List.push_toArray, List.append_toArray, List.nil_append, List.cons_append]
 refine wpR_seq (wpR_of_wp ?_)
 go_wp2
 rw [← HBN.out, HW.out]
 clear hbn
 refine wpR_seq (wpR_of_wp ?_)
 by_cases hs : shapeP fs = 0
 ·have hRet : ∀ e w', RetFind w A fs m e w' ↔ Fr [] w w' ∧ (match findP fs m with | some p => ∃ a Wb, Fr [] w Wb ∧ (adF Wb A 0 fs)[m.toNat]? = some a ∧ e = .returned (.tuple #[.agg (plC a p.2), .int .i64 0]) | none => e = .returned (.tuple #[.agg zeroPl, .int .i64 7])) := fun e w' => by
   unfold RetFind
   rw [if_neg (by simp [hs])]
  have HRET := Lib.hid hRet
  clear hRet
  rw [hs] at HSH
  go_wp2_with fail
  refine HSH.out.mono ?_
  rintro e w1 ⟨rfl, hf1⟩
  have hz1 := hf1.size
  have hN1 := hN0.fr hf1 (by simp)
  have hP1 := hP0.fr hf1 (by simp)
  have hE1 := hE0.fr hf1 (by simp)
  have hG1 := hG0.fr hf1 (by simp)
  go_wp2_with fail
  refine wpR_seq (wpR_seq (wpR_of_wp ?_))
  go_wp2_with fail
  refine (all_any pb _).mono ?_
  rintro e w2 ⟨rfl, rfl⟩
  go_wp2_with fail
  refine wpR_block ?_
  obtain ⟨bx, hbx⟩ : ∃ b, b = w1.heap.size := ⟨_, rfl⟩
  obtain ⟨Wb, hWb⟩ : ∃ Wb, Wb = w1.alloc (.cells #[.pointer (some ⟨pb, 0, none⟩)] 125) := ⟨_, rfl⟩
  have hf2 : Fr [] w1 Wb := by rw [hWb]; exact (Fr.refl _ _).alloc _
  have hX : Blk Wb bx 125 #[.pointer (some ⟨pb, 0, none⟩)] := by rw [hWb]; exact Blk.new _ _ _ _ hbx
  have hN2 := hN1.fr hf2 (by simp)
  have hP2 := hP1.fr hf2 (by simp)
  have hE2 := hE1.fr hf2 (by simp)
  have hG2 := hG1.fr hf2 (by simp)
  have hFb := (hf0.trans hf1).trans hf2
  have hxl := hX.lt
  have hnl := HBN.out
  have hRb : RF (fun b => b = bn + 1 ∨ b = bn + 1 + 1) n Wb A c fs := (h.sub fun k hk e => by omega).fr0 hFb
  have HG := Lib.hid (all_gives bx pb A c fs _ n Wb [bn + 1, bn + 1 + 1] hRb hb (by simp) (hX.cell 0 rfl) (hG2.cell 0 rfl) (by simp; omega) (by simp; omega))
  rw [← hbx]
  have HWb := Lib.hid hWb.symm
  clear hWb
  have hent : ∀ args w, (callFunc 151 args).run Tryz.prog w = .ok (.enter 151 args) w := fun args w => by simp [go_sem]
  have HSZ := Lib.hid (fun k => seqF_size (placesP fs) (adF Wb A 0 fs) k)
  have HAT := Lib.hid (fun k hk => seqF_at (ps := placesP fs) (qs := adF Wb A 0 fs) (adF_len Wb A fs 0 0 0) (k := k) hk)
  generalize seqF (placesP fs) (adF Wb A 0 fs) = f at *
  have hNb : (placesP fs).length ≤ 1000000000 := by have : (placesP fs).length = (plF 0 0 fs).length := rfl; omega
  have hbx1 : bn + 1 + 1 < bx := by omega
  clear hbx hnl
  rw [HWb.out]
  refine wpR_rangeFunc2 rfl hent (fun k => HSZ.out k) HG.out (fun k W => k ≤ (placesP fs).length ∧ Fr [] Wb W ∧ ∀ j : Nat, j < k → (j : Int) ≠ m)
   (fun cd W => cd = .ret ∧ ∃ (k : Nat) (p : Plc) (a : Addr), (k : Int) = m ∧ (placesP fs)[k]? = some p ∧ (adF Wb A 0 fs)[k]? = some a ∧ Fr [bn + 1, bn + 1 + 1] Wb W ∧ Blk W (bn + 1) 122 (plC a p.2) ∧ Blk W (bn + 1 + 1) 26 #[.int .i64 0]) Wb.heap.size rfl ?_ ?_ (fun k W h => h.2.1.mono (by simp)) ?_ (fun W hf => ⟨Nat.zero_le _, hf, fun j hj => absurd hj (Nat.not_lt_zero _)⟩) ?_ ?_ ?_
  ·rintro k W W' Z ⟨h1, h2, h3⟩ hf hz
   exact ⟨h1, h2.trans2 hf (fun x hx => .inr (hz x hx)), h3⟩
  ·rintro cd W W' Z ⟨h0, k, p, a, h1, h2, h3, h4, h5, h6⟩ hf hz
   exact ⟨h0, k, p, a, h1, h2, h3, h4.trans2 hf (fun x hx => .inr (hz x hx)), h5.fr hf (fun hm => by have := hz _ hm; omega), h6.fr hf (fun hm => by have := hz _ hm; omega)⟩
  ·rintro cd W ⟨h0, k, p, a, h1, h2, h3, h4, h5, h6⟩
   exact h4
  ·rintro k W hk ⟨h1, h2, h3⟩ hnc
   obtain ⟨p, a, e1, e2, hv⟩ := HAT.out k hk
   rw [hv]
   unfold plV
   have HE1 := Lib.hid e1
   have HE2 := Lib.hid e2
   clear e1 e2 hv
   have hzW := h2.size
   have hD1 : Wb.heap.size + 1 < W.heap.size := by
    obtain ⟨_, r, hr⟩ := hnc
    exact (Array.getElem?_eq_some_iff.1 hr).1
   gi_wp2
   refine ⟨by exact frx, fun W2 hf2 hnc2 => ?_⟩
   have hT : Blk W2 W.heap.size 122 (plC a p.2) := (Blk.new W _ _ _ rfl).fr hf2 (by simp; omega)
   have hfW : Fr [Wb.heap.size + 1] W W2 := Fr.trans (by exact frx) hf2
   have h4 := h2.trans2 hfW (fun x hx => by simp at hx; subst hx; exact .inr (by omega))
   have hN4 := hN2.fr h4 (by simp)
   have hP4 := hP2.fr h4 (by simp)
   have hE4 := hE2.fr h4 (by simp)
   have n0 : W2.cell? ⟨bn, 0, none⟩ = some (.int .i64 m) := hN4.cell 0 rfl
   have hki : (k : Int) ≤ 1000000000 := by omega
   by_cases hkm : (k : Int) = m
   ·subst hkm
    have t0 := hT.cell 0 rfl
    have t1 := hT.cell 1 rfl
    have t2 := hT.cell 2 rfl
    have t3 := hT.cell 3 rfl
    have t4 := hT.cell 4 rfl
    have t5 := hT.cell 5 rfl
    have t6 := hT.cell 6 rfl
    have tz0 := hT.frozen 0
    have tz1 := hT.frozen 1
    have tz2 := hT.frozen 2
    have tz3 := hT.frozen 3
    have tz4 := hT.frozen 4
    have tz5 := hT.frozen 5
    have tz6 := hT.frozen 6
    have p0 := hP4.cell 0 rfl
    have p1 := hP4.cell 1 rfl
    have p2 := hP4.cell 2 rfl
    have p3 := hP4.cell 3 rfl
    have p4 := hP4.cell 4 rfl
    have p5 := hP4.cell 5 rfl
    have p6 := hP4.cell 6 rfl
    have pz0 := hP4.frozen 0
    have pz1 := hP4.frozen 1
    have pz2 := hP4.frozen 2
    have pz3 := hP4.frozen 3
    have pz4 := hP4.frozen 4
    have pz5 := hP4.frozen 5
    have pz6 := hP4.frozen 6
    have e0 : W2.cell? ⟨bn + 1 + 1, 0, none⟩ = some (.int .i64 0) := hE4.cell 0 rfl
    have ez := hE4.frozen 0
    have hP5 := hP4.node (.pointer (some a)) (.int .i64 p.2.func) (.bool p.2.fn) (.int .i64 p.2.parent) (.int .i64 p.2.part) (.int .i64 p.2.index) (.int .i64 p.2.size)
    have hS5 := fr_node1 W2 (bn + 1) (.pointer (some a)) (.int .i64 p.2.func) (.bool p.2.fn) (.int .i64 p.2.parent) (.int .i64 p.2.part) (.int .i64 p.2.index) (.int .i64 p.2.size)
    have hE5 := hE4.fr hS5 (by simp)
    obtain ⟨W3, hW3⟩ : ∃ W3, W3 = ((((((W2.setCell ⟨bn + 1, 0, none⟩ (.pointer (some a))).setCell ⟨bn + 1, 1, none⟩ (.int .i64 p.2.func)).setCell ⟨bn + 1, 2, none⟩ (.bool p.2.fn)).setCell ⟨bn + 1, 3, none⟩ (.int .i64 p.2.parent)).setCell ⟨bn + 1, 4, none⟩ (.int .i64 p.2.part)).setCell ⟨bn + 1, 5, none⟩ (.int .i64 p.2.index)).setCell ⟨bn + 1, 6, none⟩ (.int .i64 p.2.size) := ⟨_, rfl⟩
    rw [← hW3] at hP5 hS5 hE5
    have e5 : W3.cell? ⟨bn + 1 + 1, 0, none⟩ = some (.int .i64 0) := hE5.cell 0 rfl
    have ez5 := hE5.frozen 0
    rw [hW3] at e5 ez5
    gi_wp2
    rw [← hW3]
    have hS6 : Fr [bn + 1 + 1] W3 (W3.setCell ⟨bn + 1 + 1, 0, none⟩ (.int .i64 0)) := (Fr.refl _ _).setCell (.inl (by simp)) _
    refine ⟨⟨[bn + 1, bn + 1 + 1], (hS5.mono (by simp)).trans (hS6.mono (by simp)), by simp; omega⟩, rfl, k, p, a, rfl, HE1.out, HE2.out, ((h4.mono (by simp)).trans (hS5.mono (by simp))).trans (hS6.mono (by simp)), hP5.fr hS6 (by simp), hE5.set_ 0 (.int .i64 0)⟩
   ·have hne : ((k : Int) == m) = false := by simpa using hkm
    have HKM := Lib.hid hkm
    clear hkm
    gi_wp2
    refine ⟨⟨[], by exact frx, by simp⟩, by omega, h4, fun j hj => ?_⟩
    rcases Nat.lt_or_ge j k with h5 | h5
    ·exact h3 j h5
    ·obtain rfl : j = k := by omega
     exact HKM.out
  ·rintro W ⟨h1, h2, h3⟩ hd
   have hnone : findP fs m = none := by
    unfold findP
    split
    ·rename_i h0
     rcases Nat.lt_or_ge m.toNat (placesP fs).length with h5 | h5
     ·exact absurd (show ((m.toNat : Nat) : Int) = m by omega) (h3 m.toNat h5)
     ·exact List.getElem?_eq_none h5
    ·rfl
   have hP3 := hP2.fr h2 (by simp)
   have hE3 := hE2.fr h2 (by simp)
   have p0 := hP3.cell 0 rfl
   have p1 := hP3.cell 1 rfl
   have p2 := hP3.cell 2 rfl
   have p3 := hP3.cell 3 rfl
   have p4 := hP3.cell 4 rfl
   have p5 := hP3.cell 5 rfl
   have p6 := hP3.cell 6 rfl
   have pz0 := hP3.frozen 0
   have pz1 := hP3.frozen 1
   have pz2 := hP3.frozen 2
   have pz3 := hP3.frozen 3
   have pz4 := hP3.frozen 4
   have pz5 := hP3.frozen 5
   have pz6 := hP3.frozen 6
   have hS5 := fr_node1 W (bn + 1) (.pointer none) (.int .i64 0) (.bool false) (.int .i64 0) (.int .i64 0) (.int .i64 0) (.int .i64 0)
   have hP5 := hP3.node (.pointer none) (.int .i64 0) (.bool false) (.int .i64 0) (.int .i64 0) (.int .i64 0) (.int .i64 0)
   have hE5 := hE3.fr hS5 (by simp)
   obtain ⟨W3, hW3⟩ : ∃ W3, W3 = ((((((W.setCell ⟨bn + 1, 0, none⟩ (.pointer none)).setCell ⟨bn + 1, 1, none⟩ (.int .i64 0)).setCell ⟨bn + 1, 2, none⟩ (.bool false)).setCell ⟨bn + 1, 3, none⟩ (.int .i64 0)).setCell ⟨bn + 1, 4, none⟩ (.int .i64 0)).setCell ⟨bn + 1, 5, none⟩ (.int .i64 0)).setCell ⟨bn + 1, 6, none⟩ (.int .i64 0) := ⟨_, rfl⟩
   rw [← hW3] at hP5 hS5 hE5
   have e5 : W3.cell? ⟨bn + 1 + 1, 0, none⟩ = some (.int .i64 0) := hE5.cell 0 rfl
   have ez5 := hE5.frozen 0
   have hd5 := hS5.heap hd (by simp; omega)
   rw [hW3] at e5 ez5
   have HNO := Lib.hid hnone
   clear hnone
   refine wpR_of_wp ?_
   go_wp2
   rw [← hW3]
   have hS6 : Fr [bn + 1 + 1] W3 (W3.setCell ⟨bn + 1 + 1, 0, none⟩ (.int .i64 7)) := (Fr.refl _ _).setCell (.inl (by simp)) _
   have hd6 := hS6.heap hd5 (by simp; omega)
   refine leaves_marks .returning (by simp) [Wb.heap.size] _ (by simp) (by simpa using hd6) fun W' hf' => ?_
   refine ⟨_, results_find rfl _ _ (bn + 1) (bn + 1 + 1) rfl rfl ((hP5.fr hS6 (by simp)).fr hf' (by simp; omega)) ((hE5.set_ 0 (.int .i64 7)).fr hf' (by simp; omega)), ?_⟩
   rw [HRET.out, HNO.out]
   exact ⟨(((hFb.trans h2).trans2 hS5 (fun x hx => by simp at hx; subst hx; have := HBN.out; exact .inr (by omega))).trans2 hS6 (fun x hx => by simp at hx; subst hx; have := HBN.out; exact .inr (by omega))).trans2 hf' (fun x hx => by simp at hx; subst hx; have := hFb.size; exact .inr (by omega)), rfl⟩
  ·rintro cd W ⟨rfl, k, p, a, rfl, e1, e2, h4, h5, h6⟩ hd
   have hfd : findP fs (k : Int) = some p := by
    unfold findP
    rw [if_pos (by omega)]
    simpa using e1
   have HFD := Lib.hid hfd
   have HE2 := Lib.hid e2
   clear hfd e1 e2
   refine wpR_of_wp ?_
   go_wp2
   refine leaves_marks .returning (by simp) [Wb.heap.size] W (by simp) (by simpa using hd) fun W' hf' => ?_
   refine ⟨_, results_find rfl _ _ (bn + 1) (bn + 1 + 1) rfl rfl (h5.fr hf' (by simp; omega)) (h6.fr hf' (by simp; omega)), ?_⟩
   rw [HRET.out, HFD.out]
   exact ⟨(hFb.trans2 h4 (fun x hx => by simp at hx; have := HBN.out; rcases hx with rfl | rfl <;> exact .inr (by omega))).trans2 hf' (fun x hx => by simp at hx; subst hx; have := hFb.size; exact .inr (by omega)), a, Wb, hFb, by simpa using HE2.out, rfl⟩
 ·have hRet : ∀ e w', RetFind w A fs m e w' ↔ Fr [] w w' ∧ e = .returned (.tuple #[.agg zeroPl, .int .i64 (shapeP fs)]) := fun e w' => by
   unfold RetFind
   rw [if_pos hs]
  have HRET := Lib.hid hRet
  clear hRet
  have hne : (shapeP fs != 0) = true := by simpa using hs
  generalize shapeP fs = sp at *
  clear hs
  go_wp2_with fail
  refine HSH.out.mono ?_
  rintro e w1 ⟨rfl, hf1⟩
  have hP3 := hP0.fr hf1 (by simp)
  have hE3 := hE0.fr hf1 (by simp)
  have p0 := hP3.cell 0 rfl
  have p1 := hP3.cell 1 rfl
  have p2 := hP3.cell 2 rfl
  have p3 := hP3.cell 3 rfl
  have p4 := hP3.cell 4 rfl
  have p5 := hP3.cell 5 rfl
  have p6 := hP3.cell 6 rfl
  have pz0 := hP3.frozen 0
  have pz1 := hP3.frozen 1
  have pz2 := hP3.frozen 2
  have pz3 := hP3.frozen 3
  have pz4 := hP3.frozen 4
  have pz5 := hP3.frozen 5
  have pz6 := hP3.frozen 6
  have hS5 := fr_node1 w1 (bn + 1) (.pointer none) (.int .i64 0) (.bool false) (.int .i64 0) (.int .i64 0) (.int .i64 0) (.int .i64 0)
  have hP5 := hP3.node (.pointer none) (.int .i64 0) (.bool false) (.int .i64 0) (.int .i64 0) (.int .i64 0) (.int .i64 0)
  have hE5 := hE3.fr hS5 (by simp)
  obtain ⟨W3, hW3⟩ : ∃ W3, W3 = ((((((w1.setCell ⟨bn + 1, 0, none⟩ (.pointer none)).setCell ⟨bn + 1, 1, none⟩ (.int .i64 0)).setCell ⟨bn + 1, 2, none⟩ (.bool false)).setCell ⟨bn + 1, 3, none⟩ (.int .i64 0)).setCell ⟨bn + 1, 4, none⟩ (.int .i64 0)).setCell ⟨bn + 1, 5, none⟩ (.int .i64 0)).setCell ⟨bn + 1, 6, none⟩ (.int .i64 0) := ⟨_, rfl⟩
  rw [← hW3] at hP5 hS5 hE5
  have e5 : W3.cell? ⟨bn + 1 + 1, 0, none⟩ = some (.int .i64 0) := hE5.cell 0 rfl
  have ez5 := hE5.frozen 0
  rw [hW3] at e5 ez5
  go_wp2
  rw [← hW3]
  have hS6 : Fr [bn + 1 + 1] W3 (W3.setCell ⟨bn + 1 + 1, 0, none⟩ (.int .i64 sp)) := (Fr.refl _ _).setCell (.inl (by simp)) _
  refine leaves_marks .returning (by simp) [] _ (by simp) (by simp) fun W' hf' => ?_
  refine ⟨_, results_find rfl _ _ (bn + 1) (bn + 1 + 1) rfl rfl ((hP5.fr hS6 (by simp)).fr hf' (by simp)) ((hE5.set_ 0 (.int .i64 sp)).fr hf' (by simp)), ?_⟩
  rw [HRET.out]
  exact ⟨((((hf0.trans hf1).trans2 hS5 (fun x hx => by simp at hx; subst hx; have := HBN.out; exact .inr (by omega))).trans2 hS6 (fun x hx => by simp at hx; subst hx; have := HBN.out; exact .inr (by omega))).trans hf'), rfl⟩
end

/- Where of the program. -/
section
open Go Go.RowKit
set_option linter.unusedSimpArgs false
abbrev zeroSp : Spt := { func := 0, fn := false, parent := 0, part := 0, index := 0, size := 0 }
abbrev zeroSC : Array Value := #[.int .i64 0, .bool false, .int .i64 0, .int .i64 0, .int .i64 0, .int .i64 0]
def whereO (fs : List Fu) (m : Int) : Spt × Int := if shapeP fs ≠ 0 then (zeroSp, shapeP fs) else match findP fs m with | some p => (p.2, 0) | none => (zeroSp, 7)
theorem find_where {w w' : World} {A : Option Addr} {fs : List Fu} {m : Int} {e : Ending} (h : RetFind w A fs m e w') : Fr [] w w' ∧ ∃ q : Option Addr, e = .returned (.tuple #[.agg #[.pointer q, .int .i64 (whereO fs m).1.func, .bool (whereO fs m).1.fn, .int .i64 (whereO fs m).1.parent, .int .i64 (whereO fs m).1.part, .int .i64 (whereO fs m).1.index, .int .i64 (whereO fs m).1.size], .int .i64 (whereO fs m).2]) := by
  obtain ⟨hf, h⟩ := h
  refine ⟨hf, ?_⟩
  unfold whereO
  split at h
  · rename_i hs
    rw [if_pos hs]
    exact ⟨none, h⟩
  · rename_i hs
    rw [if_neg hs]
    cases hp : findP fs m with
    | some p =>
      rw [hp] at h
      obtain ⟨a, Wb, _, _, h⟩ := h
      exact ⟨some a, h⟩
    | none =>
      rw [hp] at h
      exact ⟨none, h⟩
theorem results_spot {fn : Func} {p t : Tmp} (h : fn.results = #[.cell p 36, .tmp t]) (tmps : Array Value) (w : World) (g : Nat) {a0 a1 a2 a3 a4 a5 : Value} (hp : tmps.getD p undef = .pointer (some ⟨g, 0, none⟩)) (hb : Blk w g 36 #[a0, a1, a2, a3, a4, a5]) :
  (results fn tmps).run Tryz.prog w = .ok (.tuple #[.agg #[a0, a1, a2, a3, a4, a5], tmps.getD t undef]) w := by
 have c0 := hb.cell 0 rfl
 have c1 := hb.cell 1 rfl
 have c2 := hb.cell 2 rfl
 have c3 := hb.cell 3 rfl
 have c4 := hb.cell 4 rfl
 have c5 := hb.cell 5 rfl
 simp only [Array.getD_eq_getD_getElem?] at hp
 simp [results, h, go_sem, hp, c0, c1, c2, c3, c4, c5]
theorem Blk.six {w : World} {g : Nat} {t : TypeId} {x0 x1 x2 x3 x4 x5 : Value} (h : Blk w g t #[x0, x1, x2, x3, x4, x5]) (a0 a1 a2 a3 a4 a5 : Value) :
  Blk ((((((w.setCell ⟨g, 0, none⟩ a0).setCell ⟨g, 1, none⟩ a1).setCell ⟨g, 2, none⟩ a2).setCell ⟨g, 3, none⟩ a3).setCell ⟨g, 4, none⟩ a4).setCell ⟨g, 5, none⟩ a5) g t #[a0, a1, a2, a3, a4, a5] := by
 have := (((((h.set_ 0 a0).set_ 1 a1).set_ 2 a2).set_ 3 a3).set_ 4 a4).set_ 5 a5
 simpa using this
set_option maxRecDepth 20000 in
set_option maxHeartbeats 3200000 in
theorem Where_any (m : Int) (A : Option Addr) (c : Nat) (fs : List Fu) (S : Nat → Prop) (n : Nat) (w : World) (h : RF S n w A c fs) (hb : cntF fs ≤ 1000000000) (ht : TxF fs) :
  Calls Tryz.prog 27 #[.agg #[.slice A fs.length c], .int .i64 m] w (RetV w (.tuple #[.agg (spotC (whereO fs m).1), .int .i64 (whereO fs m).2])) := by
 obtain ⟨W, hW⟩ : ∃ W, W = (w.alloc (.cells #[.slice A fs.length c] 25)).alloc (.cells zeroSC 36) := ⟨_, rfl⟩
 have hf0 : Fr [] w W := by rw [hW]; exact ((Fr.refl _ _).alloc _).alloc _
 have hB : Blk W w.heap.size 25 #[.slice A fs.length c] := by rw [hW]; exact (Blk.new _ _ _ _ rfl).alloc _
 have hP : Blk W (w.heap.size + 1) 36 zeroSC := by rw [hW]; exact Blk.new _ _ _ _ (by simp)
 have HW := Lib.hid hW.symm
 have HF := Lib.hid ((find_any w.heap.size m A c fs S n W hB (h.fr0 hf0) hb ht).mono fun e w' hr => find_where hr)
 clear hW
 generalize whereO fs m = r at *
 obtain ⟨sp, er⟩ := r
 simp only at HF ⊢
 go_enter Tryz.func27, Tryz.ntmps27
 go_upto_region 1 with fail
 rw [HW.out]
 go_wp2_with fail
 refine HF.out.mono ?_
 rintro e w1 ⟨hf1, q, rfl⟩
 clear HF
 have hP1 := hP.fr hf1 (by simp)
 have hz1 := hf1.size
 have hT : Blk (w1.alloc (.cells #[.pointer q, .int .i64 sp.func, .bool sp.fn, .int .i64 sp.parent, .int .i64 sp.part, .int .i64 sp.index, .int .i64 sp.size] 122)) w1.heap.size 122 #[.pointer q, .int .i64 sp.func, .bool sp.fn, .int .i64 sp.parent, .int .i64 sp.part, .int .i64 sp.index, .int .i64 sp.size] := Blk.new _ _ _ _ rfl
 have hP2 := hP1.alloc (.cells #[.pointer q, .int .i64 sp.func, .bool sp.fn, .int .i64 sp.parent, .int .i64 sp.part, .int .i64 sp.index, .int .i64 sp.size] 122)
 have d0 := hP2.cell 0 rfl
 have d1 := hP2.cell 1 rfl
 have d2 := hP2.cell 2 rfl
 have d3 := hP2.cell 3 rfl
 have d4 := hP2.cell 4 rfl
 have d5 := hP2.cell 5 rfl
 have z0 := hP2.frozen 0
 have z1 := hP2.frozen 1
 have z2 := hP2.frozen 2
 have z3 := hP2.frozen 3
 have z4 := hP2.frozen 4
 have z5 := hP2.frozen 5
 have t1 := hT.cell 1 rfl
 have t2 := hT.cell 2 rfl
 have t3 := hT.cell 3 rfl
 have t4 := hT.cell 4 rfl
 have t5 := hT.cell 5 rfl
 have t6 := hT.cell 6 rfl
 go_wp2_with fail
 refine bodyPost_ret (results_spot rfl _ _ (w.heap.size + 1) rfl (hP2.six _ _ _ _ _ _)) rfl ?_
 refine ⟨rfl, ?_⟩
 have hF := (hf0.trans hf1).alloc (.cells #[.pointer q, .int .i64 sp.func, .bool sp.fn, .int .i64 sp.parent, .int .i64 sp.part, .int .i64 sp.index, .int .i64 sp.size] 122)
 exact (((((hF.setCell (p := ⟨w.heap.size + 1, 0, none⟩) (.inr (by show w.heap.size ≤ w.heap.size + 1; omega)) _).setCell (p := ⟨w.heap.size + 1, 1, none⟩) (.inr (by show w.heap.size ≤ w.heap.size + 1; omega)) _).setCell (p := ⟨w.heap.size + 1, 2, none⟩) (.inr (by show w.heap.size ≤ w.heap.size + 1; omega)) _).setCell (p := ⟨w.heap.size + 1, 3, none⟩) (.inr (by show w.heap.size ≤ w.heap.size + 1; omega)) _).setCell (p := ⟨w.heap.size + 1, 4, none⟩) (.inr (by show w.heap.size ≤ w.heap.size + 1; omega)) _).setCell (p := ⟨w.heap.size + 1, 5, none⟩) (.inr (by show w.heap.size ≤ w.heap.size + 1; omega)) _
end

end Go.Proofs.YtchldahkcpbgcaaGreatDoor
