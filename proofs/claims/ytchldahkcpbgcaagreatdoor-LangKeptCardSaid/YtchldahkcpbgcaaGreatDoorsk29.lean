/- Texts of this seat, one behind the other: WlkL. -/
import Derived.Test.YtchldahkcpbgcaaGreatDoorsk25
import Derived.Test.YtchldahkcpbgcaaGreatDoorsk26
import Derived.Test.YtchldahkcpbgcaaGreatDoorsk27
import Derived.Test.YtchldahkcpbgcaaGreatDoorsk28
import Derived.Test.YtchldahkcpbgcaaGreatDoorsk19
import Derived.RangeFuncNested
import Derived.RangeFuncBound
import Derived.Shelf.Abstract
import Derived.Shelf.RegionOpen
import Derived.WalkKit
import Derived.OwnWalkIn
import Derived.TacticsInMore
import Derived.LoopNIn
import Derived.LoopIn
namespace Go.Proofs.YtchldahkcpbgcaaGreatDoor
set_option linter.unusedVariables false

/- list, exprs of the walker. -/
section
open Go Go.RowKit Go.Shelf
set_option linter.unusedSimpArgs false
attribute [local go_sem] Oper.semAt_some
structure Plays (l : Nat) (J : Nat → World → Prop) (Jx : World → Prop) (B0 : Nat) (f : Nat → Array Value) (N : Nat) (Wb : World) (Sb : List Nat) : Prop where
 aJ : ∀ k W W' Z, J k W → Fr Z W W' → (∀ z ∈ Z, B0 ≤ z) → J k W'
 aX : ∀ W W' Z, Jx W → Fr Z W W' → (∀ z ∈ Z, B0 ≤ z) → Jx W'
 C : ∀ k W, J k W → Fr Sb Wb W
 Cx : ∀ W, Jx W → Fr Sb Wb W
 Y : ∀ k W1, k < N → J k W1 → YieldAt Fence.wide 0 Tryz.prog l (f k) W1 fun e W' => (∃ Z, Fr Z W1 W' ∧ ∀ z ∈ Z, z < B0) ∧ ((e = .returned (.bool true) ∧ J (k + 1) W') ∨ (e = .returned (.bool false) ∧ Jx W'))
abbrev wkC (l k : Nat) (off : Bool) : Array Value := #[.int .i64 k, .func (.yield l) #[] #[], .bool off]
def StW (l : Nat) (J : Nat → World → Prop) (Jx : World → Prop) (wb k : Nat) (W : World) : Prop :=
 (J k W ∧ Blk W wb 208 (wkC l k false)) ∨ (Jx W ∧ ∃ a, Blk W wb 208 (wkC l a true))
def EndW (l : Nat) (J : Nat → World → Prop) (Jx : World → Prop) (wb k : Nat) (e : Ending) (W : World) : Prop := (∃ v, e = .returned v) ∧ StW l J Jx wb k W
def ListOkW (n : Nat) : Prop := ∀ (l : Nat) (J : Nat → World → Prop) (Jx : World → Prop) (B0 : Nat) (f : Nat → Array Value) (N : Nat) (Wb : World) (Sb : List Nat) (S : Nat → Prop) (wb at0 : Nat) (A : Option Addr) (c : Nat) (ns : List Nd) (sp : Spt) (W : World),
 Plays l J Jx B0 f N Wb Sb → LN S n Wb A c ns → (∀ z ∈ Sb, S z) → cntL ns ≤ 1000000000 → N ≤ 1000000000 → B0 ≤ wb → StW l J Jx wb at0 W → Seg f at0 (plL ns at0 sp 0) (adL ns Wb A 0) → at0 + (plL ns at0 sp 0).length ≤ N →
 Calls Tryz.prog 152 #[.pointer (some ⟨wb, 0, none⟩), .slice A ns.length c, .agg (spotC sp)] W (fun e W' => EndW l J Jx wb (at0 + (plL ns at0 sp 0).length) e W' ∧ ∃ Z, Fr Z W W' ∧ ∀ z ∈ Z, z < B0 ∨ z = wb)
def ExprsOkW (n : Nat) : Prop := ∀ (l : Nat) (J : Nat → World → Prop) (Jx : World → Prop) (B0 : Nat) (f : Nat → Array Value) (N : Nat) (Wb : World) (Sb : List Nat) (S : Nat → Prop) (wb at0 : Nat) (A : Option Addr) (c : Nat) (ns : List Nd) (sp : Spt) (W : World),
 Plays l J Jx B0 f N Wb Sb → LN S n Wb A c ns → (∀ z ∈ Sb, S z) → cntL ns ≤ 1000000000 → N ≤ 1000000000 → B0 ≤ wb → StW l J Jx wb at0 W → Seg f at0 (plE ns at0 sp) (adE ns Wb A 0) → at0 + (plE ns at0 sp).length ≤ N →
 Calls Tryz.prog 197 #[.pointer (some ⟨wb, 0, none⟩), .slice A ns.length c, .agg (spotC sp)] W (fun e W' => EndW l J Jx wb (at0 + (plE ns at0 sp).length) e W' ∧ ∃ Z, Fr Z W W' ∧ ∀ z ∈ Z, z < B0 ∨ z = wb)
section
variable {l : Nat} {J : Nat → World → Prop} {Jx : World → Prop} {B0 : Nat} {f : Nat → Array Value} {N : Nat} {Wb W W' : World} {Sb : List Nat} {wb k : Nat}
theorem StW.fr (Y : Plays l J Jx B0 f N Wb Sb) (h : StW l J Jx wb k W) {Z : List Nat} (hf : Fr Z W W') (hZ : ∀ z ∈ Z, B0 ≤ z ∧ z ≠ wb) : StW l J Jx wb k W' := by
 have hn : wb ∉ Z := fun hm => (hZ _ hm).2 rfl
 rcases h with ⟨h1, h2⟩ | ⟨h1, a, h2⟩
 ·exact .inl ⟨Y.aJ _ _ _ _ h1 hf fun z hz => (hZ z hz).1, h2.fr hf hn⟩
 ·exact .inr ⟨Y.aX _ _ _ h1 hf fun z hz => (hZ z hz).1, a, h2.fr hf hn⟩
theorem StW.fr0 (Y : Plays l J Jx B0 f N Wb Sb) (h : StW l J Jx wb k W) (hf : Fr [] W W') : StW l J Jx wb k W' := h.fr Y hf (by simp)
theorem StW.base (Y : Plays l J Jx B0 f N Wb Sb) (h : StW l J Jx wb k W) : Fr Sb Wb W := by
 rcases h with ⟨h1, _⟩ | ⟨h1, _⟩
 ·exact Y.C _ _ h1
 ·exact Y.Cx _ h1
theorem StW.lt (h : StW l J Jx wb k W) : wb < W.heap.size := by
 rcases h with ⟨_, h2⟩ | ⟨_, a, h2⟩
 ·exact h2.lt
 ·exact h2.lt
end
section
variable {f : Nat → Array Value} {at0 k b o : Nat} {ns : List Nd} {x : Nd} {sp : Spt} {W : World} {A : Option Addr} {hd : HdN}
theorem split_at {α : Type} {l : List α} {k : Nat} {x : α} (h : l[k]? = some x) : l = l.take k ++ (x :: l.drop (k + 1)) := by
 have hk := (List.getElem?_eq_some_iff.1 h).1
 have e := (List.getElem?_eq_some_iff.1 h).2
 conv => lhs; rw [← List.take_append_drop k l]
 congr 1
 rw [List.drop_eq_getElem_cons hk, e]
theorem plX_eq (x : Nd) (at0 : Nat) (sp : Spt) : x.plX at0 sp = plE x.subs at0 sp ++ (if x.kind = 10 then plL x.body (at0 + (plE x.subs at0 sp).length) { sp with fn := true, part := 3 } 0 else []) := by
 cases x
 rw [Nd.plX]
 rfl
theorem adX_eq (h : NdAt W b o x hd) : x.adX W ⟨b, o, none⟩ = adE x.subs W hd.As 0 ++ (if x.kind = 10 then adL x.body W hd.Ab 0 else []) := by
 have e3 := slA_at h.c3
 have e5 := slA_at h.c5
 cases x
 rw [Nd.adX, e3, e5]
 rfl
abbrev inSp (sp : Spt) (me : Nat) (part : Nat) : Spt := { func := sp.func, fn := sp.fn, parent := me, part := part, index := 0, size := 0 }
theorem plS_eq (x : Nd) (at0 : Nat) (sp : Spt) : x.plS at0 sp = (x, sp) :: (plE x.subs (at0 + 1) (inSp sp at0 0) ++ plL x.body (at0 + 1 + (plE x.subs (at0 + 1) (inSp sp at0 0)).length) (inSp sp at0 1) 0 ++
  plL x.els (at0 + 1 + (plE x.subs (at0 + 1) (inSp sp at0 0)).length + (plL x.body (at0 + 1 + (plE x.subs (at0 + 1) (inSp sp at0 0)).length) (inSp sp at0 1) 0).length) (inSp sp at0 2) 0) := by
 cases x
 rw [Nd.plS]
 rfl
theorem adS_eq (h : NdAt W b o x hd) : x.adS W ⟨b, o, none⟩ = ⟨b, o, none⟩ :: (adE x.subs W hd.As 0 ++ adL x.body W hd.Ab 0 ++ adL x.els W hd.Ae 0) := by
 have e3 := slA_at h.c3
 have e5 := slA_at h.c5
 have e6 := slA_at h.c6
 cases x
 rw [Nd.adS, e3, e5, e6]
 rfl
theorem E_take (h : Hid (ns[k]? = some x)) (at0 : Nat) (sp : Spt) : (plE (ns.take (k + 1)) at0 sp).length = (plE (ns.take k) at0 sp).length + (x.plX (at0 + (plE (ns.take k) at0 sp).length) sp).length := by
 rw [take_at h, plE_app, List.length_append]
 simp [plE]
theorem L_take (h : Hid (ns[k]? = some x)) (at0 : Nat) (sp : Spt) : (plL (ns.take (k + 1)) at0 sp 0).length = (plL (ns.take k) at0 sp 0).length + (x.plS (at0 + (plL (ns.take k) at0 sp 0).length) { sp with index := k, size := szL [x] }).length := by
 have hk : (ns.take k).length = k := by
  have := (List.getElem?_eq_some_iff.1 h.out).1
  simp
  omega
 rw [take_at h, plL_app, List.length_append, hk]
 simp [plL]
theorem E_le (ns : List Nd) (k at0 : Nat) (sp : Spt) : (plE (ns.take k) at0 sp).length ≤ (plE ns at0 sp).length := by
 conv => rhs; rw [← List.take_append_drop k ns, plE_app, List.length_append]
 omega
theorem L_le (ns : List Nd) (k at0 : Nat) (sp : Spt) : (plL (ns.take k) at0 sp 0).length ≤ (plL ns at0 sp 0).length := by
 conv => rhs; rw [← List.take_append_drop k ns, plL_app, List.length_append]
 omega
theorem seg_E (h : Hid (ns[k]? = some x)) (hs : Seg f at0 (plE ns at0 sp) (adE ns W A 0)) : Seg f (at0 + (plE (ns.take k) at0 sp).length) (x.plX (at0 + (plE (ns.take k) at0 sp).length) sp) (x.adX W (ndA A k)) := by
 have hk : (ns.take k).length = k := by
  have := (List.getElem?_eq_some_iff.1 h.out).1
  simp
  omega
 have e := split_at h.out
 rw [e, plE_app, adE_app, hk, Nat.zero_add] at hs
 have h1 := (Seg.app (adE_len _ _ _ _ _ _) hs).2
 rw [plE, adE] at h1
 exact (Seg.app (adX_len _ _ _ _ _) h1).1
theorem seg_L (h : Hid (ns[k]? = some x)) (hs : Seg f at0 (plL ns at0 sp 0) (adL ns W A 0)) : Seg f (at0 + (plL (ns.take k) at0 sp 0).length) (x.plS (at0 + (plL (ns.take k) at0 sp 0).length) { sp with index := k, size := szL [x] }) (x.adS W (ndA A k)) := by
 have hk : (ns.take k).length = k := by
  have := (List.getElem?_eq_some_iff.1 h.out).1
  simp
  omega
 have e := split_at h.out
 rw [e, plL_app, adL_app, hk, Nat.zero_add] at hs
 have h1 := (Seg.app (adL_len _ _ _ _ _ _ _) hs).2
 rw [plL, adL] at h1
 exact (Seg.app (adS_len _ _ _ _ _) h1).1
end
theorem wpIn_hide {F : Fence} {n : Nat} {P : Program} {c : Code} {Q : Exit → Act → World → Prop} {a : Act} {w : World} (h : ∀ M, M = w → c.wpIn F n P Q a M) : c.wpIn F n P Q a w := h w rfl
theorem LN.sub1 {S : Nat → Prop} {n : Nat} {w : World} {b off c k : Nat} {l : List Nd} {x : Nd} (h : LN S (n + 1) w (some ⟨b, off, none⟩) c l) (hx : l[k]? = some x) : LN S (n + 1) w (some ⟨b, off + k * 7, none⟩) (c - k) [x] := by
  have hk := (List.getElem?_eq_some_iff.1 hx).1
  have h1 := h.1
  have h2 := h.2.1
  refine ⟨by simp; omega, by omega, fun _ => ?_⟩
  obtain ⟨b2, off2, hA, hb, hat⟩ := h.2.2 (by omega)
  injection hA with hA
  injection hA with e1 e2
  subst e1 e2
  refine ⟨b, off + k * 7, rfl, hb, fun j y hy => ?_⟩
  match j, hy with
  | 0, hy =>
    simp at hy
    subst hy
    rw [Nat.zero_mul, Nat.add_zero]
    exact hat k x hx
set_option maxRecDepth 20000 in
set_option maxHeartbeats 3200000 in
theorem exprs_stepW (n : Nat) (hE : ExprsOkW n) (hL : ListOkW n) : ExprsOkW (n + 1) := by
 intro l J Jx B0 f N Wb Sb S wb at0 A c ns sp W Y hl hSb hcnt hN hwb hst hseg hle
 have hlen := hl.len
 have hHE := Lib.hid hE
 have hHL := Lib.hid hL
 have HY := Lib.hid Y
 have HSEG := Lib.hid hseg
 clear hE hL hseg
 obtain ⟨V, hV⟩ : ∃ V, V = W.alloc (.cells (spotC sp) 36) := ⟨_, rfl⟩
 have hf0 : Fr [] W V := by rw [hV]; exact (Fr.refl _ _).alloc _
 have hB : Blk V W.heap.size 36 (spotC sp) := by rw [hV]; exact Blk.new _ _ _ _ rfl
 have hstV := hst.fr0 Y hf0
 have hwl := hst.lt
 have hVz := hB.lt
 have HV := Lib.hid hV.symm
 clear hV Y hst
 go_enter Tryz.func197, Tryz.ntmps197
 go_upto_region 1 with fail
 rw [HV.out]
 go_wp2
 go_loopw [10] (fun i wr => ∃ k : Nat, k ≤ ns.length ∧ i = .int .i64 k ∧ StW l J Jx wb (at0 + (plE (ns.take k) at0 sp).length) wr ∧ Blk wr W.heap.size 36 (spotC sp) ∧ ∃ Z, Fr Z V wr ∧ ∀ z ∈ Z, z < B0 ∨ z = wb) (fun i _ => ns.length - (intOf i).toNat)
 case atStart => exact ⟨0, Nat.zero_le _, rfl, by simpa [plE] using hstV, hB, [], Fr.refl _ _, by simp⟩
 case round =>
  clear hB hstV
  obtain ⟨k, hk, rfl, hst, hB, Z, hf, hZ⟩ := hrel
  have hzr := hf.size
  by_cases hlt : k < ns.length
  ·skip
   obtain ⟨b, off, x, hd, rfl, hx, hN1, hH, hb⟩ := hl.at_ hlt
   have hfb := hst.base HY.out
   have hbS : b ∉ Sb := fun hm => hb (hSb _ hm)
   have hNr := hN1.fr hfb hbS
   have hcx := cntL_mem (List.mem_of_getElem? hx.out)
   have hce := Nd.cnt_eq x
   have HT := Lib.hid (E_take hx at0 sp)
   have hsx := seg_E hx HSEG.out
   have hle2 := E_le ns (k + 1) at0 sp
   rw [HT.out] at hle2
   rw [ndA_at, adX_eq hN1] at hsx
   rw [plX_eq] at hsx
   have hPX := congrArg List.length (plX_eq x (at0 + (plE (ns.take k) at0 sp).length) sp)
   rw [List.length_append] at hPX
   obtain ⟨hs1, hs2⟩ := Seg.app (adE_len _ _ _ _ _ _) hsx
   clear hsx
   obtain ⟨ak, hak⟩ : ∃ ak, at0 + (plE (ns.take k) at0 sp).length = ak := ⟨_, rfl⟩
   rw [hak] at hst hs1 hs2 hPX HT hle2
   have c3 := hNr.c3
   have q0 : wr.cell? ⟨W.heap.size, 0, none⟩ = some (.int .i64 sp.func) := hB.cell 0 rfl
   have q1 : wr.cell? ⟨W.heap.size, 1, none⟩ = some (.bool sp.fn) := hB.cell 1 rfl
   have q2 : wr.cell? ⟨W.heap.size, 2, none⟩ = some (.int .i64 sp.parent) := hB.cell 2 rfl
   have q3 : wr.cell? ⟨W.heap.size, 3, none⟩ = some (.int .i64 sp.part) := hB.cell 3 rfl
   have q4 : wr.cell? ⟨W.heap.size, 4, none⟩ = some (.int .i64 sp.index) := hB.cell 4 rfl
   have q5 : wr.cell? ⟨W.heap.size, 5, none⟩ = some (.int .i64 sp.size) := hB.cell 5 rfl
   have hki : (k : Int) < ns.length := by omega
   have HAK := Lib.hid hak
   have HPX := Lib.hid hPX
   clear hak hPX
   go_wp2_with fail
   refine wp_region_held_drew (S := fun w' => Fr Sb Wb w' ∧ Blk w' W.heap.size 36 (spotC sp)) (by kernel_rfl) (⟨hfb.drew, hB.drew⟩) (fun hHeld => ?_)
   refine wpAnyH_take (i := 0) (v := ?_) rfl (by kernel_rfl) (by kernel_rfl) (by kernel_rfl) (fun _ _ _ h => h) (Or.inl ⟨by rfl, fun w hSw => ?_⟩) (by assumption) ?_
   rotate_left 1
   ·(try dsimp only at hSw)
    go_simp
    try with_reducible rfl
   try simp only [Act.put, List.setIfInBounds_toArray, List.set_cons_zero, List.set_cons_succ]
   refine wpAnyH_take (i := 1) (v := ?_) rfl (by kernel_rfl) (by kernel_rfl) (by kernel_rfl) (fun _ _ _ h => h) (Or.inl ⟨by rfl, fun w hSw => ?_⟩) (by assumption) ?_
   rotate_left 1
   ·(try dsimp only at hSw)
    go_simp
    try with_reducible rfl
   try simp only [Act.put, List.setIfInBounds_toArray, List.set_cons_zero, List.set_cons_succ]
   refine wpAnyH_take (i := 2) (v := ?_) rfl (by kernel_rfl) (by kernel_rfl) (by kernel_rfl) (fun _ _ _ h => h) (Or.inl ⟨by rfl, fun w hSw => ?_⟩) (by assumption) ?_
   rotate_left 1
   ·(try dsimp only at hSw)
    go_simp
    try with_reducible rfl
   try simp only [Act.put, List.setIfInBounds_toArray, List.set_cons_zero, List.set_cons_succ]
   refine wpAnyH_take (i := 3) (v := .pointer (some ⟨b, off + k * 7, none⟩)) rfl (by kernel_rfl) (by kernel_rfl) (by kernel_rfl) (fun _ _ _ h => h) (Or.inl ⟨by rfl, fun w hSw => ?_⟩) (by assumption) ?_
   ·(try dsimp only at hSw)
    go_simp
   try simp only [Act.put, List.setIfInBounds_toArray, List.set_cons_zero, List.set_cons_succ]
   refine wpAnyH_take (i := 4) (v := ?_) rfl (by kernel_rfl) (by kernel_rfl) (by kernel_rfl) (fun _ _ _ h => h) (Or.inl ⟨by rfl, fun w hSw => ?_⟩) (by assumption) ?_
   rotate_left 1
   ·(try dsimp only at hSw)
    go_simp
    try with_reducible rfl
   try simp only [Act.put, List.setIfInBounds_toArray, List.set_cons_zero, List.set_cons_succ]
   refine wpAnyH_take (i := 5) (v := ?_) rfl (by kernel_rfl) (by kernel_rfl) (by kernel_rfl) (fun _ _ _ h => h) (Or.inl ⟨by rfl, fun w hSw => ?_⟩) (by assumption) ?_
   rotate_left 1
   ·(try dsimp only at hSw)
    have z3 : w.cell? ⟨b, off + k * 7 + 3, none⟩ = some (.slice hd.As x.subs.length hd.cs) := (hN1.fr hSw.1 hbS).c3
    go_simp
    try with_reducible rfl
   try simp only [Act.put, List.setIfInBounds_toArray, List.set_cons_zero, List.set_cons_succ]
   refine wpAnyH_take (i := 6) (v := ?_) rfl (by kernel_rfl) (by kernel_rfl) (by kernel_rfl) (fun _ _ _ h => h) (Or.inl ⟨by rfl, fun w hSw => ?_⟩) (by assumption) ?_
   rotate_left 1
   ·(try dsimp only at hSw)
    have z0 : w.cell? ⟨W.heap.size, 0, none⟩ = some (.int .i64 sp.func) := hSw.2.cell 0 rfl
    have z1 : w.cell? ⟨W.heap.size, 1, none⟩ = some (.bool sp.fn) := hSw.2.cell 1 rfl
    have z2 : w.cell? ⟨W.heap.size, 2, none⟩ = some (.int .i64 sp.parent) := hSw.2.cell 2 rfl
    have z3 : w.cell? ⟨W.heap.size, 3, none⟩ = some (.int .i64 sp.part) := hSw.2.cell 3 rfl
    have z4 : w.cell? ⟨W.heap.size, 4, none⟩ = some (.int .i64 sp.index) := hSw.2.cell 4 rfl
    have z5 : w.cell? ⟨W.heap.size, 5, none⟩ = some (.int .i64 sp.size) := hSw.2.cell 5 rfl
    go_simp
    try with_reducible rfl
   try simp only [Act.put, List.setIfInBounds_toArray, List.set_cons_zero, List.set_cons_succ]
   refine wpAnyH_ready (rs := [7]) (by kernel_rfl) (by simp) ?_
   refine AllReadyH.cons rfl (fun K hK => ?_) AllReadyH.nil
   go_simp
   refine (hHE.out l J Jx B0 f N Wb Sb S wb ak hd.As hd.cs x.subs sp _ HY.out hH.subs hSb (by omega) hN hwb (hst.fr0 HY.out frx) hs1 (by have := HPX.out; have := HAK.out; omega)).mono ?_
   rintro e w3 ⟨⟨⟨v, rfl⟩, hst3⟩, Z3, hf3, hZ3⟩
   have hB3 : Blk w3 W.heap.size 36 (spotC sp) := Blk.fr (Blk.drew hB) hf3 (fun hm => by rcases hZ3 _ hm with h | h <;> omega)
   have hfr3 : Fr Z3 wr w3 := Fr.trans (Fr.drew (Fr.refl _ _)) hf3
   refine hK.out _ _ (⟨hst3.base HY.out, hB3⟩) (fun hHeld2 => ?_)
   clear hK K hHeld
   have hHeld := hHeld2
   clear hHeld2
   try simp only [Act.put, List.setIfInBounds_toArray, List.set_cons_zero, List.set_cons_succ]
   refine wpAnyH_done (by kernel_rfl) ?_ _
   clear hf3
   have hb3 := hst3.base HY.out
   have hN3 := hN1.fr hb3 hbS
   have c0 := hN3.c0
   have c5 := hN3.c5
   have hz3 := hfr3.size
   have hZZ : ∃ Z, Fr Z V w3 ∧ ∀ z ∈ Z, z < B0 ∨ z = wb := ⟨Z ++ Z3, (hf.mono (by intro x hx; simp [hx])).trans (hfr3.mono (by intro x hx; simp [hx])), fun z hz => (List.mem_append.1 hz).elim (hZ z) (hZ3 z)⟩
   by_cases h10 : x.kind = 10
   ·skip
    rw [if_pos h10] at HPX
    rw [if_pos h10, if_pos h10] at hs2
    have HPX := Lib.hid HPX
    rw [h10] at c0
    clear h10
    have q0 : w3.cell? ⟨W.heap.size, 0, none⟩ = some (.int .i64 sp.func) := hB3.cell 0 rfl
    have q1 : w3.cell? ⟨W.heap.size, 1, none⟩ = some (.bool sp.fn) := hB3.cell 1 rfl
    have q2 : w3.cell? ⟨W.heap.size, 2, none⟩ = some (.int .i64 sp.parent) := hB3.cell 2 rfl
    have q3 : w3.cell? ⟨W.heap.size, 3, none⟩ = some (.int .i64 sp.part) := hB3.cell 3 rfl
    have q4 : w3.cell? ⟨W.heap.size, 4, none⟩ = some (.int .i64 sp.index) := hB3.cell 4 rfl
    have q5 : w3.cell? ⟨W.heap.size, 5, none⟩ = some (.int .i64 sp.size) := hB3.cell 5 rfl
    go_wp2_with fail
    refine wp_hide (fun M hM => ?_)
    have hfM : Fr [] w3 M := by
     rw [hM]
     first
      | exact frx
      | exact (((Fr.refl _ _).alloc _).setCell (p := ⟨w3.heap.size, 1, none⟩) (.inr (Nat.le_refl _)) _).setCell (p := ⟨w3.heap.size, 3, none⟩) (.inr (Nat.le_refl _)) _
    have hTM : Blk M w3.heap.size 36 #[.int .i64 sp.func, .bool true, .int .i64 sp.parent, .int .i64 3, .int .i64 sp.index, .int .i64 sp.size] := by
     rw [hM]
     first
      | exact Blk.new _ _ _ _ rfl
      | simpa using ((Blk.new w3 36 (spotC sp) _ rfl).set_ 1 (.bool true)).set_ 3 (.int .i64 3)
    clear hM
    have hstM := hst3.fr0 HY.out hfM
    have hbM := hstM.base HY.out
    have hBM := hB3.fr hfM (by simp)
    have hzM := hfM.size
    have hTl := hTM.lt
    refine wp_region_held_drew (S := fun w' => Fr Sb Wb w' ∧ Blk w' w3.heap.size 36 #[.int .i64 sp.func, .bool true, .int .i64 sp.parent, .int .i64 3, .int .i64 sp.index, .int .i64 sp.size]) (by kernel_rfl) (⟨hbM.drew, hTM.drew⟩) (fun hHeld => ?_)
    refine wpAnyH_take (i := 0) (v := ?_) rfl (by kernel_rfl) (by kernel_rfl) (by kernel_rfl) (fun _ _ _ h => h) (Or.inl ⟨by rfl, fun w hSw => ?_⟩) (by assumption) ?_
    rotate_left 1
    ·(try dsimp only at hSw)
     go_simp
     try with_reducible rfl
    try simp only [Act.put, List.setIfInBounds_toArray, List.set_cons_zero, List.set_cons_succ]
    refine wpAnyH_take (i := 1) (v := ?_) rfl (by kernel_rfl) (by kernel_rfl) (by kernel_rfl) (fun _ _ _ h => h) (Or.inl ⟨by rfl, fun w hSw => ?_⟩) (by assumption) ?_
    rotate_left 1
    ·(try dsimp only at hSw)
     go_simp
     try with_reducible rfl
    try simp only [Act.put, List.setIfInBounds_toArray, List.set_cons_zero, List.set_cons_succ]
    refine wpAnyH_take (i := 2) (v := ?_) rfl (by kernel_rfl) (by kernel_rfl) (by kernel_rfl) (fun _ _ _ h => h) (Or.inl ⟨by rfl, fun w hSw => ?_⟩) (by assumption) ?_
    rotate_left 1
    ·(try dsimp only at hSw)
     go_simp
     try with_reducible rfl
    try simp only [Act.put, List.setIfInBounds_toArray, List.set_cons_zero, List.set_cons_succ]
    refine wpAnyH_take (i := 3) (v := .pointer (some ⟨b, off + k * 7, none⟩)) rfl (by kernel_rfl) (by kernel_rfl) (by kernel_rfl) (fun _ _ _ h => h) (Or.inl ⟨by rfl, fun w hSw => ?_⟩) (by assumption) ?_
    ·(try dsimp only at hSw)
     go_simp
    try simp only [Act.put, List.setIfInBounds_toArray, List.set_cons_zero, List.set_cons_succ]
    refine wpAnyH_take (i := 4) (v := ?_) rfl (by kernel_rfl) (by kernel_rfl) (by kernel_rfl) (fun _ _ _ h => h) (Or.inl ⟨by rfl, fun w hSw => ?_⟩) (by assumption) ?_
    rotate_left 1
    ·(try dsimp only at hSw)
     go_simp
     try with_reducible rfl
    try simp only [Act.put, List.setIfInBounds_toArray, List.set_cons_zero, List.set_cons_succ]
    refine wpAnyH_take (i := 5) (v := ?_) rfl (by kernel_rfl) (by kernel_rfl) (by kernel_rfl) (fun _ _ _ h => h) (Or.inl ⟨by rfl, fun w hSw => ?_⟩) (by assumption) ?_
    rotate_left 1
    ·(try dsimp only at hSw)
     have z5 : w.cell? ⟨b, off + k * 7 + 5, none⟩ = some (.slice hd.Ab x.body.length hd.cb) := (hN1.fr hSw.1 hbS).c5
     go_simp
     try with_reducible rfl
    try simp only [Act.put, List.setIfInBounds_toArray, List.set_cons_zero, List.set_cons_succ]
    refine wpAnyH_take (i := 6) (v := ?_) rfl (by kernel_rfl) (by kernel_rfl) (by kernel_rfl) (fun _ _ _ h => h) (Or.inl ⟨by rfl, fun w hSw => ?_⟩) (by assumption) ?_
    rotate_left 1
    ·(try dsimp only at hSw)
     have z0 : w.cell? ⟨w3.heap.size, 0, none⟩ = some (.int .i64 sp.func) := hSw.2.cell 0 rfl
     have z1 : w.cell? ⟨w3.heap.size, 1, none⟩ = some (.bool true) := hSw.2.cell 1 rfl
     have z2 : w.cell? ⟨w3.heap.size, 2, none⟩ = some (.int .i64 sp.parent) := hSw.2.cell 2 rfl
     have z3 : w.cell? ⟨w3.heap.size, 3, none⟩ = some (.int .i64 3) := hSw.2.cell 3 rfl
     have z4 : w.cell? ⟨w3.heap.size, 4, none⟩ = some (.int .i64 sp.index) := hSw.2.cell 4 rfl
     have z5 : w.cell? ⟨w3.heap.size, 5, none⟩ = some (.int .i64 sp.size) := hSw.2.cell 5 rfl
     go_simp
     try with_reducible rfl
    try simp only [Act.put, List.setIfInBounds_toArray, List.set_cons_zero, List.set_cons_succ]
    refine wpAnyH_ready (rs := [7]) (by kernel_rfl) (by simp) ?_
    refine AllReadyH.cons rfl (fun K hK => ?_) AllReadyH.nil
    go_simp
    refine (hHL.out l J Jx B0 f N Wb Sb S wb (ak + (plE x.subs ak sp).length) hd.Ab hd.cb x.body { sp with fn := true, part := 3 } _ HY.out hH.body hSb (by omega) hN hwb (hstM.fr0 HY.out frx) hs2 (by have := HPX.out.out; have := HAK.out; omega)).mono ?_
    rintro e w4 ⟨⟨⟨v, rfl⟩, hst4⟩, Z4, hf4, hZ4⟩
    have hT4 : Blk w4 w3.heap.size 36 #[.int .i64 sp.func, .bool true, .int .i64 sp.parent, .int .i64 3, .int .i64 sp.index, .int .i64 sp.size] := Blk.fr (Blk.drew hTM) hf4 (fun hm => by rcases hZ4 _ hm with h | h <;> omega)
    have hB4 : Blk w4 W.heap.size 36 (spotC sp) := Blk.fr (Blk.drew hBM) hf4 (fun hm => by rcases hZ4 _ hm with h | h <;> omega)
    have hfr4 : Fr Z4 M w4 := Fr.trans (Fr.drew (Fr.refl _ _)) hf4
    refine hK.out _ _ (⟨hst4.base HY.out, hT4⟩) (fun hHeld2 => ?_)
    clear hK K hHeld
    have hHeld := hHeld2
    clear hHeld2
    try simp only [Act.put, List.setIfInBounds_toArray, List.set_cons_zero, List.set_cons_succ]
    refine wpAnyH_done (by kernel_rfl) ?_ _
    clear hf4 c0 c5 c3
    go_wp2_with fail
    go_roundw
    case rel =>
     obtain ⟨ZZ, h1, h2⟩ := hZZ
     refine ⟨k + 1, by omega, by go_num, ?_, hB4, ZZ ++ Z4, ((h1.mono (by intro x hx; simp [hx])).trans (hfM.mono (by simp))).trans (hfr4.mono (by intro x hx; simp [hx])), fun z hz => (List.mem_append.1 hz).elim (h2 z) (hZ4 z)⟩
     rw [HT.out, ← Nat.add_assoc, HAK.out, HPX.out.out, ← Nat.add_assoc]
     exact hst4
    case measure => simp [intOf]; omega
   ·skip
    have hne : (x.kind == 10) = false := by simpa using h10
    rw [if_neg h10] at HPX
    have HPX := Lib.hid HPX
    clear h10 hs2
    go_wp2_with fail
    go_roundw
    case rel =>
     refine ⟨k + 1, by omega, by go_num, ?_, hB3, hZZ⟩
     rw [HT.out, ← Nat.add_assoc, HAK.out, HPX.out.out]
     simpa using hst3
    case measure => simp [intOf]; omega
  ·skip
   rw [List.take_of_length_le (by omega)] at hst
   go_wp2
   go_end0
   exact ⟨⟨⟨_, rfl⟩, hst⟩, Z, (hf0.mono (by simp)).trans hf, hZ⟩
set_option maxRecDepth 20000 in
set_option maxHeartbeats 6400000 in
theorem list_stepW (n : Nat) (hE : ExprsOkW n) (hL : ListOkW n) : ListOkW (n + 1) := by
 intro l J Jx B0 f N Wb Sb S wb at0 A c ns sp W Y hl hSb hcnt hN hwb hst hseg hle
 have hlen := hl.len
 have hHE := Lib.hid hE
 have hHL := Lib.hid hL
 have HY := Lib.hid Y
 have HSEG := Lib.hid hseg
 clear hE hL hseg
 have hmo : Tryz.prog.follows .mixedOrders = true := by kernel_rfl
 obtain ⟨V, hV⟩ : ∃ V, V = W.alloc (.cells (spotC sp) 36) := ⟨_, rfl⟩
 have hf0 : Fr [] W V := by rw [hV]; exact (Fr.refl _ _).alloc _
 have hB : Blk V W.heap.size 36 (spotC sp) := by rw [hV]; exact Blk.new _ _ _ _ rfl
 have hstV := hst.fr0 Y hf0
 have hwl := hst.lt
 have hVz := hB.lt
 have HV := Lib.hid hV.symm
 clear hV Y hst
 refine (callsIn_wide (n := 0)).1 (callsIn_of_wp Tryz.func152 rfl trivial ?_ rfl)
 simp only [Tryz.ntmps152, List.size_toArray, List.length_cons, List.length_nil, Nat.reduceAdd, Nat.reduceSub, Array.replicate_succ, Array.replicate_zero, List.push_toArray, List.append_toArray, List.nil_append, List.cons_append]
 gi_wp2
 rw [HV.out]
 gi_loopw [12] (fun i wr => ∃ (k : Nat) (u v : Int), k ≤ ns.length ∧ i = .int .i64 k ∧ StW l J Jx wb (at0 + (plL (ns.take k) at0 sp 0).length) wr ∧ Blk wr W.heap.size 36 #[.int .i64 sp.func, .bool sp.fn, .int .i64 sp.parent, .int .i64 sp.part, .int .i64 u, .int .i64 v] ∧ ∃ Z, Fr Z W wr ∧ ∀ z ∈ Z, z < B0 ∨ z = wb) (fun i _ => ns.length - (intOf i).toNat)
 case atStart => exact ⟨0, sp.index, sp.size, Nat.zero_le _, rfl, by simpa [plL] using hstV, hB, [], hf0, by simp⟩
 case round =>
  clear hB hstV
  obtain ⟨k, u, v, hk, rfl, hst, hB, Z, hf, hZ⟩ := hrel
  have hzr := hf.size
  have hWlt := hB.lt
  by_cases hlt : k < ns.length
  ·skip
   have hki : (k : Int) < ns.length := by omega
   have hfb := hst.base HY.out
   rcases hst with ⟨hj, hW⟩ | ⟨hjx, a, hW⟩
   ·skip
    obtain ⟨b, off, x, hd, rfl, hx, hN1, hH, hb⟩ := hl.at_ hlt
    have hbS : b ∉ Sb := fun hm => hb (hSb _ hm)
    have hcx := cntL_mem (List.mem_of_getElem? hx.out)
    have hce := Nd.cnt_eq x
    have HT := Lib.hid (L_take hx at0 sp)
    have hsx := seg_L hx HSEG.out
    have hle2 := L_le ns (k + 1) at0 sp
    rw [HT.out] at hle2
    rw [ndA_at, adS_eq hN1] at hsx
    obtain ⟨ak, hak⟩ : ∃ ak, at0 + (plL (ns.take k) at0 sp 0).length = ak := ⟨_, rfl⟩
    rw [hak] at hj hW hsx HT hle2
    obtain ⟨sq, hsq⟩ : ∃ sq : Spt, sq = { sp with index := k, size := szL [x] } := ⟨_, rfl⟩
    rw [← hsq] at hsx HT hle2
    have HAK := Lib.hid hak
    have HSQ := Lib.hid hsq
    clear hak hsq
    have u0 : wr.cell? ⟨wb, 0, none⟩ = some (.int .i64 ak) := hW.cell 0 rfl
    have u1 : wr.cell? ⟨wb, 1, none⟩ = some (.func (.yield l) #[] #[]) := hW.cell 1 rfl
    have u2 : wr.cell? ⟨wb, 2, none⟩ = some (.bool false) := hW.cell 2 rfl
    have hln := hl.bound
    have hck : ¬ c = k := by omega
    have hc1 : (k : Int) + 1 ≤ (c : Int) := by omega
    have hc2 : (k : Int) ≤ (k : Int) + 1 := by omega
    have hc0 : (0 : Int) ≤ (k : Int) := by omega
    have hck2 : ¬ k = c := by omega
    gi_wp2
    gi_region
    gi_wp2_with fail
    refine ⟨trivial, rfl, (callsIn_wide.2 (size_any (n + 1) S (some ⟨b, off + k * 7, none⟩) (c - k) [x] _ (((hl.sub1 hx.out).fr hfb hSb).fr0 frx) (by simp only [cntL]; omega))).mono ?_⟩
    rintro e w3 ⟨rfl, hf3⟩
    have hfr3 : Fr [] wr w3 := Fr.trans frx hf3
    clear hf3
    have hB3 := hB.fr hfr3 (by simp)
    have hW3 := hW.fr hfr3 (by simp)
    have hj3 := HY.out.aJ _ _ _ _ hj hfr3 (by simp)
    have hz3 := hfr3.size
    have x4 : w3.cell? ⟨W.heap.size, 4, none⟩ = some (.int .i64 u) := hB3.cell 4 rfl
    have y4 := hB3.frozen 4
    have y5 : (w3.setCell ⟨W.heap.size, 4, none⟩ (.int .i64 k)).frozen? ⟨W.heap.size, 5, none⟩ = false := (hB3.set_ 4 (.int .i64 k)).frozen 5
    have x5 : (w3.setCell ⟨W.heap.size, 4, none⟩ (.int .i64 k)).cell? ⟨W.heap.size, 5, none⟩ = some (.int .i64 v) := (hB3.set_ 4 (.int .i64 k)).cell 5 (by simp)
    obtain ⟨W4, hW4⟩ : ∃ W4, W4 = (w3.setCell ⟨W.heap.size, 4, none⟩ (.int .i64 k)).setCell ⟨W.heap.size, 5, none⟩ (.int .i64 (szL [x] : Nat)) := ⟨_, rfl⟩
    have hf4 : Fr [W.heap.size] w3 W4 := by rw [hW4]; exact ((Fr.refl _ _).setCell (.inl (by simp)) _).setCell (.inl (by simp)) _
    have hB4 : Blk W4 W.heap.size 36 #[.int .i64 sp.func, .bool sp.fn, .int .i64 sp.parent, .int .i64 sp.part, .int .i64 k, .int .i64 (szL [x] : Nat)] := by rw [hW4]; simpa using (hB3.set_ 4 (.int .i64 k)).set_ 5 (.int .i64 (szL [x] : Nat))
    have hWB4 := hW3.fr hf4 (by simp; omega)
    have hj4 := HY.out.aJ _ _ _ _ hj3 hf4 (by simp; omega)
    have v0 : W4.cell? ⟨wb, 0, none⟩ = some (.int .i64 ak) := hWB4.cell 0 rfl
    have vz := hWB4.frozen 0
    have HW4 := Lib.hid hW4.symm
    rw [hW4] at v0 vz
    clear hW4
    obtain ⟨sz, hsz⟩ : ∃ sz, szL [x] = sz := ⟨_, rfl⟩
    rw [hsz] at v0 vz HW4 hB4 ⊢
    have HSZ := Lib.hid hsz
    clear hsz
    have haki : (ak : Int) ≤ 1000000000 := by have := HAK.out; omega
    gi_wp2_with fail
    rw [HW4.out]
    refine wpIn_hide (fun M hM => ?_)
    have hfM : Fr [wb] W4 M := by rw [hM]; exact (Fr.refl _ _).setCell (.inl (by simp)) _
    have hWM : Blk M wb 208 (wkC l (ak + 1) false) := by rw [hM]; exact hWB4.set_ 0 (.int .i64 ((ak : Int) + 1))
    clear hM v0 vz x4 y4 x5 y5
    have hBM := hB4.fr hfM (by simp; omega)
    have hjM := HY.out.aJ _ _ _ _ hj4 hfM (by simp; exact hwb)
    have hzM := hfM.size
    have hz4 := hf4.size
    have hsq : sq = { sp with index := k, size := sz } := by rw [HSQ.out, HSZ.out]
    subst hsq
    have hPS := Lib.hid (congrArg List.length (plS_eq x ak { sp with index := k, size := sz }))
    rw [plS_eq] at hsx
    have hfk := hsx 0 _ _ rfl rfl
    rw [Nat.add_zero] at hfk
    have v1 : M.cell? ⟨wb, 1, none⟩ = some (.func (.yield l) #[] #[]) := hWM.cell 1 rfl
    have s0 : M.cell? ⟨W.heap.size, 0, none⟩ = some (.int .i64 sp.func) := hBM.cell 0 rfl
    have s1 : M.cell? ⟨W.heap.size, 1, none⟩ = some (.bool sp.fn) := hBM.cell 1 rfl
    have s2 : M.cell? ⟨W.heap.size, 2, none⟩ = some (.int .i64 sp.parent) := hBM.cell 2 rfl
    have s3 : M.cell? ⟨W.heap.size, 3, none⟩ = some (.int .i64 sp.part) := hBM.cell 3 rfl
    have s4 : M.cell? ⟨W.heap.size, 4, none⟩ = some (.int .i64 k) := hBM.cell 4 rfl
    have s5 : M.cell? ⟨W.heap.size, 5, none⟩ = some (.int .i64 sz) := hBM.cell 5 rfl
    have HLEN : Hid ((x.plS ak { sp with index := k, size := sz }).length = 1 + (plE x.subs (ak + 1) (inSp sp ak 0)).length + (plL x.body (ak + 1 + (plE x.subs (ak + 1) (inSp sp ak 0)).length) (inSp sp ak 1) 0).length + (plL x.els (ak + 1 + (plE x.subs (ak + 1) (inSp sp ak 0)).length + (plL x.body (ak + 1 + (plE x.subs (ak + 1) (inSp sp ak 0)).length) (inSp sp ak 1) 0).length) (inSp sp ak 2) 0).length) := by
     show _ = _
     have e : (x.plS ak { sp with index := k, size := sz }).length = ((x, ({ sp with index := k, size := sz } : Spt)) :: (plE x.subs (ak + 1) (inSp sp ak 0) ++ plL x.body (ak + 1 + (plE x.subs (ak + 1) (inSp sp ak 0)).length) (inSp sp ak 1) 0 ++ plL x.els (ak + 1 + (plE x.subs (ak + 1) (inSp sp ak 0)).length + (plL x.body (ak + 1 + (plE x.subs (ak + 1) (inSp sp ak 0)).length) (inSp sp ak 1) 0).length) (inSp sp ak 2) 0)).length := hPS.out
     rw [e]
     simp only [List.length_cons, List.length_append]
     omega
    have hLE := HLEN.out
    have hak1 : ak < N := by have := HAK.out; omega
    obtain ⟨fn, tmps, assign, body, hy, hR⟩ := HY.out.Y ak M.drew hak1 (HY.out.aJ _ _ _ _ hjM ((Fr.refl [] _).drew) (by simp))
    rw [hfk] at hy
    unfold plV at hy
    clear hPS hfk
    have hsr : Seg f (ak + 1) (plE x.subs (ak + 1) (inSp sp ak 0) ++ plL x.body (ak + 1 + (plE x.subs (ak + 1) (inSp sp ak 0)).length) (inSp sp ak 1) 0 ++ plL x.els (ak + 1 + (plE x.subs (ak + 1) (inSp sp ak 0)).length + (plL x.body (ak + 1 + (plE x.subs (ak + 1) (inSp sp ak 0)).length) (inSp sp ak 1) 0).length) (inSp sp ak 2) 0) (adE x.subs Wb hd.As 0 ++ adL x.body Wb hd.Ab 0 ++ adL x.els Wb hd.Ae 0) := (Seg.app (p1 := [(x, { sp with index := k, size := sz })]) (a1 := [⟨b, off + k * 7, none⟩]) rfl hsx).2
    clear hsx
    obtain ⟨hs12, hs3⟩ := Seg.app (by rw [List.length_append, List.length_append, adE_len x.subs Wb hd.As 0 (ak + 1) (inSp sp ak 0), adL_len x.body Wb hd.Ab 0 (ak + 1 + (plE x.subs (ak + 1) (inSp sp ak 0)).length) (inSp sp ak 1) 0]) hsr
    obtain ⟨hs1, hs2⟩ := Seg.app (adE_len x.subs Wb hd.As 0 (ak + 1) (inSp sp ak 0)) hs12
    rw [List.length_append, ← Nat.add_assoc] at hs3
    clear hsr hs12
    obtain ⟨e0, he0⟩ : ∃ e0, (plE x.subs (ak + 1) (inSp sp ak 0)).length = e0 := ⟨_, rfl⟩
    rw [he0] at hs2 hs3 hLE
    obtain ⟨b0, hb0⟩ : ∃ b0, (plL x.body (ak + 1 + e0) (inSp sp ak 1) 0).length = b0 := ⟨_, rfl⟩
    rw [hb0] at hs3 hLE
    obtain ⟨l0, hl0⟩ : ∃ l0, (plL x.els (ak + 1 + e0 + b0) (inSp sp ak 2) 0).length = l0 := ⟨_, rfl⟩
    rw [hl0] at hLE
    have HE0 := Lib.hid he0
    have HB0 := Lib.hid hb0
    have HL0 := Lib.hid hl0
    have HLE := Lib.hid hLE
    clear he0 hb0 hl0 HLEN
    refine wpIn_region_still_tail 8 hmo (by kernel_rfl) ?_
    simp only [List.take_succ_cons, List.take_zero, List.drop_succ_cons, List.drop_zero]
    repeat still_step
    refine wpStill_nil ?_
    gi_wp2_with fail
    refine ⟨rfl, hR.mono ?_⟩
    rintro e w5 ⟨⟨Z5, hf5, hZ5⟩, ⟨rfl, hj5⟩ | ⟨rfl, hjx⟩⟩
    ·skip
     have hfr5 : Fr Z5 M w5 := Fr.trans (Fr.drew (Fr.refl _ _)) hf5
     have hW5 := hWM.fr hfr5 (fun hm => by have := hZ5 _ hm; omega)
     have hB5 := hBM.fr hfr5 (fun hm => by have := hZ5 _ hm; omega)
     have hz5 := hfr5.size
     have hZM : ∃ Z, Fr Z W w5 ∧ ∀ z ∈ Z, z < B0 ∨ z = wb := by
      have g1 := (hf.mono (T := Z ++ (wb :: Z5)) (by intro x hx; simp [hx])).trans (hfr3.mono (by simp))
      have g2 := g1.trans2 hf4 (fun x hx => by simp at hx; subst hx; exact .inr (Nat.le_refl _))
      have g3 := g2.trans (hfM.mono (by intro x hx; simp at hx; simp [hx]))
      have g4 := g3.trans (hfr5.mono (by intro x hx; simp [hx]))
      refine ⟨_, g4, fun z hz => ?_⟩
      rcases List.mem_append.1 hz with hz | hz
      ·exact hZ z hz
      ·rcases List.mem_cons.1 hz with hz | hz
       ·exact .inr hz
       ·exact .inl (hZ5 z hz)
     clear hy hR hf5
     have st5 : StW l J Jx wb (ak + 1) w5 := .inl ⟨hj5, hW5⟩
     have s0 : w5.cell? ⟨W.heap.size, 0, none⟩ = some (.int .i64 sp.func) := hB5.cell 0 rfl
     have s1 : w5.cell? ⟨W.heap.size, 1, none⟩ = some (.bool sp.fn) := hB5.cell 1 rfl
     gi_wp2_with fail
     refine wpIn_hide (fun M6 hM6 => ?_)
     have hf6 : Fr [] w5 M6 := by rw [hM6]; exact frx
     have hTM6 : Blk M6 w5.heap.size 36 #[.int .i64 sp.func, .bool sp.fn, .int .i64 ak, .int .i64 0, .int .i64 0, .int .i64 0] := by rw [hM6]; exact Blk.new _ _ _ _ rfl
     clear hM6
     have stM6 := st5.fr0 HY.out hf6
     have hBM6 := hB5.fr hf6 (by simp)
     have hbM6 := stM6.base HY.out
     have hz6 := hf6.size
     have hTl := hTM6.lt
     have c3 := (hN1.fr hbM6 hbS).c3
     clear s0 s1 s2 s3 s4 s5 u0 u1 u2 v1
     have t0 : M6.cell? ⟨w5.heap.size, 0, none⟩ = some (.int .i64 sp.func) := hTM6.cell 0 rfl
     have t1 : M6.cell? ⟨w5.heap.size, 1, none⟩ = some (.bool sp.fn) := hTM6.cell 1 rfl
     have t2 : M6.cell? ⟨w5.heap.size, 2, none⟩ = some (.int .i64 ak) := hTM6.cell 2 rfl
     have t3 : M6.cell? ⟨w5.heap.size, 3, none⟩ = some (.int .i64 0) := hTM6.cell 3 rfl
     have t4 : M6.cell? ⟨w5.heap.size, 4, none⟩ = some (.int .i64 0) := hTM6.cell 4 rfl
     have t5 : M6.cell? ⟨w5.heap.size, 5, none⟩ = some (.int .i64 0) := hTM6.cell 5 rfl
     refine wpIn_region_still_tail 6 hmo (by kernel_rfl) ?_
     simp only [List.take_succ_cons, List.take_zero, List.drop_succ_cons, List.drop_zero]
     repeat still_step
     refine wpStill_nil ?_
     gi_wp2_with fail
     refine ⟨trivial, rfl, (callsIn_wide.2 (hHE.out l J Jx B0 f N Wb Sb S wb (ak + 1) hd.As hd.cs x.subs (inSp sp ak 0) _ HY.out hH.subs hSb (by omega) hN hwb (stM6.fr0 HY.out frx) hs1 (by have := HAK.out; have := HLE.out; have := HE0.out; have := HB0.out; have := HL0.out; omega))).mono ?_⟩
     rintro e w7 ⟨⟨⟨v, rfl⟩, stw7⟩, Z7, hfw7, hZ7⟩
     have hfrw7 : Fr Z7 M6 w7 := Fr.trans (Fr.drew (Fr.refl _ _)) hfw7
     have hTw7 := hTM6.fr hfrw7 (fun hm => by rcases hZ7 _ hm with h | h <;> omega)
     have hBw7 := hBM6.fr hfrw7 (fun hm => by rcases hZ7 _ hm with h | h <;> omega)
     have hzw7 := hfrw7.size
     have hbw7 := stw7.base HY.out
     clear hfw7
     clear t3
     rw [HE0.out] at stw7
     have t3 := hTw7.cell 3 rfl
     have tz := hTw7.frozen 3
     gi_wp2_with fail
     refine wpIn_hide (fun M8 hM8 => ?_)
     have hfM8 : Fr [w5.heap.size] w7 M8 := by rw [hM8]; exact (Fr.refl _ _).setCell (.inl (by simp)) _
     have hTM8 : Blk M8 w5.heap.size 36 #[.int .i64 sp.func, .bool sp.fn, .int .i64 ak, .int .i64 1, .int .i64 0, .int .i64 0] := by rw [hM8]; simpa using hTw7.set_ 3 (.int .i64 1)
     clear hM8 t3 tz
     have stM8 := stw7.fr HY.out hfM8 (by simp; omega)
     have hBM8 := hBw7.fr hfM8 (by simp; omega)
     have hbM8 := stM8.base HY.out
     have hzM8 := hfM8.size
     have c5 := (hN1.fr hbM8 hbS).c5
     clear t0 t1 t2 t4 t5
     have t0 : M8.cell? ⟨w5.heap.size, 0, none⟩ = some (.int .i64 sp.func) := hTM8.cell 0 rfl
     have t1 : M8.cell? ⟨w5.heap.size, 1, none⟩ = some (.bool sp.fn) := hTM8.cell 1 rfl
     have t2 : M8.cell? ⟨w5.heap.size, 2, none⟩ = some (.int .i64 ak) := hTM8.cell 2 rfl
     have t3 : M8.cell? ⟨w5.heap.size, 3, none⟩ = some (.int .i64 1) := hTM8.cell 3 rfl
     have t4 : M8.cell? ⟨w5.heap.size, 4, none⟩ = some (.int .i64 0) := hTM8.cell 4 rfl
     have t5 : M8.cell? ⟨w5.heap.size, 5, none⟩ = some (.int .i64 0) := hTM8.cell 5 rfl
     refine wpIn_region_still_tail 6 hmo (by kernel_rfl) ?_
     simp only [List.take_succ_cons, List.take_zero, List.drop_succ_cons, List.drop_zero]
     repeat still_step
     refine wpStill_nil ?_
     gi_wp2_with fail
     refine ⟨trivial, rfl, (callsIn_wide.2 (hHL.out l J Jx B0 f N Wb Sb S wb (ak + 1 + e0) hd.Ab hd.cb x.body (inSp sp ak 1) _ HY.out hH.body hSb (by omega) hN hwb (stM8.fr0 HY.out frx) hs2 (by have := HAK.out; have := HLE.out; have := HE0.out; have := HB0.out; have := HL0.out; omega))).mono ?_⟩
     rintro e w9 ⟨⟨⟨v, rfl⟩, stw9⟩, Z9, hfw9, hZ9⟩
     have hfrw9 : Fr Z9 M8 w9 := Fr.trans (Fr.drew (Fr.refl _ _)) hfw9
     have hTw9 := hTM8.fr hfrw9 (fun hm => by rcases hZ9 _ hm with h | h <;> omega)
     have hBw9 := hBM8.fr hfrw9 (fun hm => by rcases hZ9 _ hm with h | h <;> omega)
     have hzw9 := hfrw9.size
     have hbw9 := stw9.base HY.out
     clear hfw9
     clear t3
     rw [HB0.out] at stw9
     have t3 := hTw9.cell 3 rfl
     have tz := hTw9.frozen 3
     gi_wp2_with fail
     refine wpIn_hide (fun M10 hM10 => ?_)
     have hfM10 : Fr [w5.heap.size] w9 M10 := by rw [hM10]; exact (Fr.refl _ _).setCell (.inl (by simp)) _
     have hTM10 : Blk M10 w5.heap.size 36 #[.int .i64 sp.func, .bool sp.fn, .int .i64 ak, .int .i64 2, .int .i64 0, .int .i64 0] := by rw [hM10]; simpa using hTw9.set_ 3 (.int .i64 2)
     clear hM10 t3 tz
     have stM10 := stw9.fr HY.out hfM10 (by simp; omega)
     have hBM10 := hBw9.fr hfM10 (by simp; omega)
     have hbM10 := stM10.base HY.out
     have hzM10 := hfM10.size
     have c6 := (hN1.fr hbM10 hbS).c6
     clear t0 t1 t2 t4 t5
     have t0 : M10.cell? ⟨w5.heap.size, 0, none⟩ = some (.int .i64 sp.func) := hTM10.cell 0 rfl
     have t1 : M10.cell? ⟨w5.heap.size, 1, none⟩ = some (.bool sp.fn) := hTM10.cell 1 rfl
     have t2 : M10.cell? ⟨w5.heap.size, 2, none⟩ = some (.int .i64 ak) := hTM10.cell 2 rfl
     have t3 : M10.cell? ⟨w5.heap.size, 3, none⟩ = some (.int .i64 2) := hTM10.cell 3 rfl
     have t4 : M10.cell? ⟨w5.heap.size, 4, none⟩ = some (.int .i64 0) := hTM10.cell 4 rfl
     have t5 : M10.cell? ⟨w5.heap.size, 5, none⟩ = some (.int .i64 0) := hTM10.cell 5 rfl
     refine wpIn_region_still_tail 6 hmo (by kernel_rfl) ?_
     simp only [List.take_succ_cons, List.take_zero, List.drop_succ_cons, List.drop_zero]
     repeat still_step
     refine wpStill_nil ?_
     gi_wp2_with fail
     refine ⟨trivial, rfl, (callsIn_wide.2 (hHL.out l J Jx B0 f N Wb Sb S wb (ak + 1 + e0 + b0) hd.Ae hd.ce x.els (inSp sp ak 2) _ HY.out hH.els hSb (by omega) hN hwb (stM10.fr0 HY.out frx) hs3 (by have := HAK.out; have := HLE.out; have := HE0.out; have := HB0.out; have := HL0.out; omega))).mono ?_⟩
     rintro e w11 ⟨⟨⟨v, rfl⟩, stw11⟩, Z11, hfw11, hZ11⟩
     have hfrw11 : Fr Z11 M10 w11 := Fr.trans (Fr.drew (Fr.refl _ _)) hfw11
     have hTw11 := hTM10.fr hfrw11 (fun hm => by rcases hZ11 _ hm with h | h <;> omega)
     have hBw11 := hBM10.fr hfrw11 (fun hm => by rcases hZ11 _ hm with h | h <;> omega)
     have hzw11 := hfrw11.size
     have hbw11 := stw11.base HY.out
     clear hfw11
     rw [HL0.out] at stw11
     gi_wp2_with fail
     go_roundw
     case rel =>
      obtain ⟨ZZ, h1, h2⟩ := hZM
      refine ⟨k + 1, k, sz, by omega, by go_num, ?_, hBw11, ZZ ++ (Z7 ++ (Z9 ++ Z11)), ?_, fun z hz => ?_⟩
      ·rw [HT.out, ← Nat.add_assoc, HAK.out, HLE.out]
       rw [show ak + (1 + e0 + b0 + l0) = ak + 1 + e0 + b0 + l0 by omega]
       exact stw11
      ·have g1 := (h1.trans0 hf6).mono (T := ZZ ++ (Z7 ++ (Z9 ++ Z11))) (by intro x hx; simp [hx])
       have g2 := g1.trans (hfrw7.mono (by intro x hx; simp [hx]))
       have g3 := g2.trans2 hfM8 (fun x hx => by simp at hx; subst hx; exact .inr (by omega))
       have g4 := g3.trans (hfrw9.mono (by intro x hx; simp [hx]))
       have g5 := g4.trans2 hfM10 (fun x hx => by simp at hx; subst hx; exact .inr (by omega))
       exact g5.trans (hfrw11.mono (by intro x hx; simp [hx]))
      ·rcases List.mem_append.1 hz with hz | hz
       ·exact h2 z hz
       ·rcases List.mem_append.1 hz with hz | hz
        ·exact hZ7 z hz
        ·rcases List.mem_append.1 hz with hz | hz
         ·exact hZ9 z hz
         ·exact hZ11 z hz
     case measure => simp [intOf]; omega
    ·skip
     have hfr5 : Fr Z5 M w5 := Fr.trans (Fr.drew (Fr.refl _ _)) hf5
     have hW5 := hWM.fr hfr5 (fun hm => by have := hZ5 _ hm; omega)
     have hB5 := hBM.fr hfr5 (fun hm => by have := hZ5 _ hm; omega)
     have hz5 := hfr5.size
     have hZM : ∃ Z, Fr Z W w5 ∧ ∀ z ∈ Z, z < B0 ∨ z = wb := by
      have g1 := (hf.mono (T := Z ++ (wb :: Z5)) (by intro x hx; simp [hx])).trans (hfr3.mono (by simp))
      have g2 := g1.trans2 hf4 (fun x hx => by simp at hx; subst hx; exact .inr (Nat.le_refl _))
      have g3 := g2.trans (hfM.mono (by intro x hx; simp at hx; simp [hx]))
      have g4 := g3.trans (hfr5.mono (by intro x hx; simp [hx]))
      refine ⟨_, g4, fun z hz => ?_⟩
      rcases List.mem_append.1 hz with hz | hz
      ·exact hZ z hz
      ·rcases List.mem_cons.1 hz with hz | hz
       ·exact .inr hz
       ·exact .inl (hZ5 z hz)
     clear hy hR hf5
     have w2c : w5.cell? ⟨wb, 2, none⟩ = some (.bool false) := hW5.cell 2 rfl
     have w2z := hW5.frozen 2
     gi_wp2_with fail
     refine bodyPost_ret (results_none rfl _ _ _) rfl ?_
     obtain ⟨ZZ, h1, h2⟩ := hZM
     have hS5 : Fr [wb] w5 (w5.setCell ⟨wb, 2, none⟩ (.bool true)) := (Fr.refl _ _).setCell (.inl (by simp)) _
     exact ⟨⟨⟨_, rfl⟩, .inr ⟨HY.out.aX _ _ _ hjx hS5 (by simp; exact hwb), ak + 1, hW5.set_ 2 (.bool true)⟩⟩, wb :: ZZ, (h1.mono (by intro x hx; simp [hx])).trans (hS5.mono (by simp)), fun z hz => (List.mem_cons.1 hz).elim .inr (h2 z)⟩
   ·skip
    have u2 : wr.cell? ⟨wb, 2, none⟩ = some (.bool true) := hW.cell 2 rfl
    gi_wp2
    refine bodyPost_ret (results_none rfl _ _ _) rfl ?_
    exact ⟨⟨⟨_, rfl⟩, .inr ⟨hjx, a, hW⟩⟩, Z, hf, hZ⟩
  ·skip
   rw [List.take_of_length_le (by omega)] at hst
   gi_wp2
   go_end0
   exact ⟨⟨⟨_, rfl⟩, hst⟩, Z, hf, hZ⟩
end

end Go.Proofs.YtchldahkcpbgcaaGreatDoor
