/- Texts of this seat, one behind the other: Bare. -/
import Derived.Test.YtippadnbngcjlaaGreatDoorh140
import Derived.Test.YtippadnbngcjlaaGreatDoorh142
import Derived.Test.YtippadnbngcjlaaGreatDoorh143
import Derived.Test.YtippadnbngcjlaaGreatDoorh136
namespace Go.Proofs.YtippadnbngcjlaaGreatDoor
set_option linter.unusedVariables false

/- bare of the law: nothing less than a tree fails. -/
section
open Go.RowKit
section
variable {A : Option Addr} {c : Nat} {g : List Ru} {L : List Int} {n : Nat} {t : T} {v : Value} {S : Nat → Prop} {w : World}
theorem rprunable (ha : RRu w A c g) (hL : rulesErr g = 0 → LOk g L) (ht : RT S n w v t) (hn : t.nodes ≤ 1024) : Calls Tryz.prog 35 #[.agg #[.slice A g.length c], v] w (RetNE w (prunOf g L t)) :=
 refPrunable_any A c g L n t v S w ha hL ht hn fun w' hf hv => refSpots_any A c g n t v S w' (ha.fr0 hf) (ht.fr0 hf) hv hn
theorem rprune {D : Option Addr} {d : Nat} {at_ : List Int} (ha : RRu w A c g) (hL : rulesErr g = 0 → LOk g L) (ht : RT S n w v t) (hn : t.nodes ≤ 1024) (hat : Rd w (.int .i64) D d at_) : Calls Tryz.prog 36 #[.agg #[.slice A g.length c], v, .slice D at_.length d] w (RetTE (n + 1024) w (pruneOf g L t at_)) :=
 refPrune_any A D c d g L n t v S at_ w ha hL ht hn hat fun w' hf => rprunable (ha.fr0 hf) hL (ht.fr0 hf) hn
theorem rhoist {at_ from_ : Int} (ha : RRu w A c g) (hL : rulesErr g = 0 → LOk g L) (ht : RT S n w v t) (hn : t.nodes ≤ 1024) : Calls Tryz.prog 37 #[.agg #[.slice A g.length c], v, .int .i64 at_, .int .i64 from_] w (RetTE (n + n) w (hoistE g L t at_ from_)) :=
 refHoist_any A c g L n t v S at_ from_ w ha hL ht hn fun w' hf hv => refSpots_any A c g n t v S w' (ha.fr0 hf) (ht.fr0 hf) hv hn
end
theorem size_z {w V : World} {o : Obj} {t : TypeId} {cs : Array Value} (h : Blk w (V.alloc o).heap.size t cs) : Blk w (V.heap.size + 1) t cs := by simpa using h
theorem rd_one1 {α : Type} (V : World) (o : Obj) (e : TypeId) (enc : α → Value) (x : α) : Rd ((V.alloc o).alloc (.cells #[enc x] e)) enc (some ⟨V.heap.size + 1, 0, none⟩) 1 [x] := by simpa using Rd.one (V.alloc o) e enc x
structure Dull (g : List Ru) (L : List Int) (o : Orc) (y : T) : Prop where
 ok : chkT g L y = 0
 few : y.nodes ≤ 1024
 say : sayT o (textL g y) ≠ 2
set_option maxRecDepth 100000 in
set_option maxHeartbeats 6400000 in
theorem bare_any (A AT : Option Addr) (c cT : Nat) (g : List Ru) (L : List Int) (n : Nat) (t : T) (S : Nat → Prop) (v : Value) (o : Orc) (w : World) (ha : RRu w A c g) (hL : rulesErr g = 0 → LOk g L) (hR : RH S n w AT cT t) (hn : t.nodes ≤ 1000) (hov : OrcIs w v o) (hg : greatO o = false)
  (hP : ∀ x ∈ (prunOf g L t).1, Dull g L o (pruneOf g L t [x]).1) (hH : ∀ a b : Nat, (hoistE g L t a b).2 = 0 → Dull g L o (hoistE g L t a b).1) :
  Calls Tryz.prog 12 #[.agg #[.slice A g.length c], .agg (tcells t AT cT), v] w (RetV w (.bool true)) := by
 obtain ⟨N, nn, B, b, rfl, hN, hB, hs, hlo⟩ := id hov
 have HG := Lib.hid hg
 have HOV := Lib.hid hov
 have HP := Lib.hid hP
 have HH := Lib.hid hH
 clear hg hov hP hH
 obtain ⟨W, hW⟩ : ∃ W, W = ((w.alloc (.cells #[.slice A g.length c] 24)).alloc (.cells #[.int .i64 t.kind, .string t.text, .slice AT t.slots.length cT] 27)).alloc (.cells #[.slice N o.need.length nn, .slice B o.bar.length b, .int .u64 o.salt, .int .u8 o.loose] 31) := ⟨_, rfl⟩
 have hF : Fr [] w W := by rw [hW]; exact frx
 have hB1 : Blk W w.heap.size 24 #[.slice A g.length c] := by rw [hW]; exact ((Blk.new w _ _ _ rfl).alloc _).alloc _
 have hB2 : Blk W (w.heap.size + 1) 27 #[.int .i64 t.kind, .string t.text, .slice AT t.slots.length cT] := by rw [hW]; exact (Blk.new _ _ _ _ (by simp)).alloc _
 have hB3 : Blk W (w.heap.size + 2) 31 #[.slice N o.need.length nn, .slice B o.bar.length b, .int .u64 o.salt, .int .u8 o.loose] := by rw [hW]; exact Blk.new _ _ _ _ (by simp)
 have q0 : W.cell? ⟨w.heap.size, 0, none⟩ = some (.slice A g.length c) := hB1.cell 0 rfl
 have p0 : W.cell? ⟨w.heap.size + 1, 0, none⟩ = some (.int .i64 t.kind) := hB2.cell 0 rfl
 have p1 : W.cell? ⟨w.heap.size + 1, 1, none⟩ = some (.string t.text) := hB2.cell 1 rfl
 have p2 : W.cell? ⟨w.heap.size + 1, 2, none⟩ = some (.slice AT t.slots.length cT) := hB2.cell 2 rfl
 rw [hW] at q0 p0 p1 p2
 have HW := Lib.hid hW.symm
 clear hW
 go_enter Tryz.func12, Tryz.ntmps12
 go_wp2_with fail
 rw [HW.out]
 clear q0 p0 p1 p2
 obtain ⟨pr, hpr⟩ : ∃ pr, prunOf g L t = pr := ⟨_, rfl⟩
 rw [hpr] at HP
 have HPR := Lib.hid hpr
 clear hpr
 refine (rprunable (n := n) (S := S) (ha.fr0 hF) hL ⟨AT, cT, rfl, hR.fr0 hF⟩ (by omega)).mono ?_
 rw [HPR.out]
 rintro e w1 ⟨A1, c1, rfl, hf1, ho1⟩
 have hF1 := hF.trans hf1
 have hB1 := hB1.fr hf1 (by simp)
 have hB2 := hB2.fr hf1 (by simp)
 have hB3 := hB3.fr hf1 (by simp)
 have r1 : Rd w1 (.int .i64) A1 c1 pr.1 := own_rd ho1 rfl rfl
 have hlb := r1.bound
 clear ho1 hf1
 go_wp2_with fail
 go_loopw [9] (fun iv wr => ∃ k : Nat, k ≤ pr.1.length ∧ iv = .int .i64 k ∧ Fr [] w1 wr) (fun i _ => pr.1.length - (intOf i).toNat)
 case atStart => exact ⟨0, Nat.zero_le _, rfl, Fr.refl _ _⟩
 case round =>
  obtain ⟨k, hk, rfl, hf⟩ := hrel
  by_cases hlt : k < pr.1.length
  ·obtain ⟨b7, o7, x, rfl, hx, hc7⟩ := (r1.fr0 hf).at_ hlt
   have hFr := hF1.trans hf
   have q0 : wr.cell? ⟨w.heap.size, 0, none⟩ = some (.slice A g.length c) := (hB1.fr hf (by simp)).cell 0 rfl
   have p0 : wr.cell? ⟨w.heap.size + 1, 0, none⟩ = some (.int .i64 t.kind) := (hB2.fr hf (by simp)).cell 0 rfl
   have p1 : wr.cell? ⟨w.heap.size + 1, 1, none⟩ = some (.string t.text) := (hB2.fr hf (by simp)).cell 1 rfl
   have p2 : wr.cell? ⟨w.heap.size + 1, 2, none⟩ = some (.slice AT t.slots.length cT) := (hB2.fr hf (by simp)).cell 2 rfl
   obtain ⟨hy1, hy2, hy3⟩ := HP.out x (List.mem_of_getElem? hx.out)
   obtain ⟨yp, hyp⟩ : ∃ y, pruneOf g L t [x] = y := ⟨_, rfl⟩
   rw [hyp] at hy1 hy2 hy3
   have HYP := Lib.hid hyp
   have hpri : Hid (printOf g L yp.1 = (textL g yp.1, 0)) := printOf_ok hy1
   have htl : (textL g yp.1).length ≤ 1000000 := (chkT_text hy1).2
   have hsb : (sayT o (textL g yp.1) == 2) = false := beq_false_of_ne hy3
   clear hyp hy1 hy3
   have hn2 : t.nodes ≤ 1024 := by omega
   go_wp2_with fail
   go_region_held3 (fun w' => w'.cell? ⟨w.heap.size, 0, none⟩ = some (.slice A g.length c) ∧ w'.cell? ⟨w.heap.size + 1, 0, none⟩ = some (.int .i64 t.kind) ∧ w'.cell? ⟨w.heap.size + 1, 1, none⟩ = some (.string t.text) ∧ w'.cell? ⟨w.heap.size + 1, 2, none⟩ = some (.slice AT t.slots.length cT) ∧ w'.cell? ⟨b7, o7 + k, none⟩ = some (.int .i64 x))
    (first
     | with_reducible exact ⟨(hFc _ _ _).cell q0 (by simp), (hFc _ _ _).cell p0 (by simp), (hFc _ _ _).cell p1 (by simp), (hFc _ _ _).cell p2 (by simp), (hFc _ _ _).cell hc7 (by simp)⟩
     | with_reducible exact ⟨(hFd _).cell q0 (by simp), (hFd _).cell p0 (by simp), (hFd _).cell p1 (by simp), (hFd _).cell p2 (by simp), (hFd _).cell hc7 (by simp)⟩
     | with_reducible exact ⟨hFb.cell q0 (by simp), hFb.cell p0 (by simp), hFb.cell p1 (by simp), hFb.cell p2 (by simp), hFb.cell hc7 (by simp)⟩
     | (go_keep; done))
    (first
     | (go_at_call 36; (with_reducible show Calls _ _ _ (World.drew (World.alloc wr (.cells #[.int .i64 x] _))) _); refine (rprune (n := n) (S := S) (at_ := [x]) (ha.fr0 (Fr.trans hFr frx)) hL ⟨AT, cT, rfl, hR.fr0 (Fr.trans hFr frx)⟩ hn2 (Rd.drew (Rd.one wr _ (.int .i64) x))).mono ?_; rw [HYP.out]; rintro e wa ⟨A5, c5, rfl, hfa, hRx⟩; have hFb : Fr [] wr wa := (Fr.trans frx hfa); have hFd : ∀ o, Fr [] wr (wa.alloc o) := (fun o => hFb.alloc o))
     | (go_at_call 36; (with_reducible show Calls _ _ _ (World.drew (World.alloc (World.alloc wr zeroO) (.cells #[.int .i64 x] _))) _); refine (calls_zd (V := wr) ?_ (fun e w' ⟨_, _, _, hf, _⟩ => hf) (rprune (n := n) (S := S) (at_ := [x]) (ha.fr0 (Fr.trans hFr frx)) hL ⟨AT, cT, rfl, hR.fr0 (Fr.trans hFr frx)⟩ hn2 (Rd.drew (rd_one1 wr zeroO _ (.int .i64) x)))).mono ?_; (focus ((repeat (first | exact Fr.refl _ _ | apply Fr.drewN | apply Fr.drew | apply Fr.alloc)); done)); rw [HYP.out]; rintro e wa ⟨⟨A5, c5, rfl, hfa, hRx⟩, hBz⟩; have hFb : Fr [] wr wa := (Fr.trans frx hfa); have hFc : ∀ x0 x1 x2, Fr [] wr (((wa.setCell ⟨wr.heap.size, 0, none⟩ x0).setCell ⟨wr.heap.size, 1, none⟩ x1).setCell ⟨wr.heap.size, 2, none⟩ x2) := (fun x0 x1 x2 => fr_three hFb (.inr (Nat.le_refl _)) x0 x1 x2); have u0 := hBz.cell 0 rfl; have u1 := hBz.cell 1 rfl; have u2 := hBz.cell 2 rfl; have v0 := hBz.frozen 0; have v1 := hBz.frozen 1; have v2 := hBz.frozen 2)
     | (go_at_call 36; (with_reducible show Calls _ _ _ (World.drew (World.alloc (World.alloc wr (.cells #[.int .i64 x] _)) zeroO)) _); refine (calls_zd (V := wr.alloc (.cells #[.int .i64 x] 3)) ?_ (fun e w' ⟨_, _, _, hf, _⟩ => hf) (rprune (n := n) (S := S) (at_ := [x]) (ha.fr0 (Fr.trans hFr frx)) hL ⟨AT, cT, rfl, hR.fr0 (Fr.trans hFr frx)⟩ hn2 (Rd.drew (Rd.alloc (Rd.one wr _ (.int .i64) x) _)))).mono ?_; (focus ((repeat (first | exact Fr.refl _ _ | apply Fr.drewN | apply Fr.drew | apply Fr.alloc)); done)); rw [HYP.out]; rintro e wa ⟨⟨A5, c5, rfl, hfa, hRx⟩, hBz⟩; have hFb : Fr [] wr wa := (Fr.trans frx hfa); have hFc : ∀ x0 x1 x2, Fr [] wr (((wa.setCell ⟨wr.heap.size + 1, 0, none⟩ x0).setCell ⟨wr.heap.size + 1, 1, none⟩ x1).setCell ⟨wr.heap.size + 1, 2, none⟩ x2) := (fun x0 x1 x2 => fr_three hFb (.inr (Nat.le_succ _)) x0 x1 x2); have hBz : Blk wa (wr.heap.size + 1) 27 #[.int .i64 0, .string emptyS, .slice none 0 0] := (size_z hBz); have u0 := hBz.cell 0 rfl; have u1 := hBz.cell 1 rfl; have u2 := hBz.cell 2 rfl; have v0 := hBz.frozen 0; have v1 := hBz.frozen 1; have v2 := hBz.frozen 2))
   ·obtain ⟨V, hV⟩ : ∃ V, V = wa.alloc (.cells #[.int .i64 yp.1.kind, .string yp.1.text, .slice A5 yp.1.slots.length c5] 27) := ⟨_, rfl⟩
    obtain ⟨bx, hbx⟩ : ∃ bx, bx = wa.heap.size := ⟨_, rfl⟩
    have hFV : Fr [] wr V := by rw [hV]; exact hFb.alloc _
    have hBV : Blk V bx 27 #[.int .i64 yp.1.kind, .string yp.1.text, .slice A5 yp.1.slots.length c5] := by rw [hV, hbx]; exact Blk.new _ _ _ _ rfl
    have hRV : RH (fun _ => False) (n + 1024) V A5 c5 yp.1 := by rw [hV]; exact (hRx.fr0 ((Fr.refl _ _).alloc _)).sub fun _ _ h => h.elim
    have hzb : wr.heap.size ≤ bx := by rw [hbx]; exact hFb.size
    have HV := Lib.hid hV.symm
    have HX := Lib.hid hbx.symm
    clear hV hbx
    rw [HV.out, HX.out]
    clear HV HX hfa hFb hRx
    try clear hFc
    try clear hFd
    try clear hBz
    try clear u0 u1 u2 v0 v1 v2
    have hFw := hFr.trans hFV
    have hfw := hf.trans hFV
    have q0 : V.cell? ⟨w.heap.size, 0, none⟩ = some (.slice A g.length c) := (hB1.fr hfw (by simp)).cell 0 rfl
    have y0 : V.cell? ⟨bx, 0, none⟩ = some (.int .i64 yp.1.kind) := hBV.cell 0 rfl
    have y1 : V.cell? ⟨bx, 1, none⟩ = some (.string yp.1.text) := hBV.cell 1 rfl
    have y2 : V.cell? ⟨bx, 2, none⟩ = some (.slice A5 yp.1.slots.length c5) := hBV.cell 2 rfl
    go_wp2_with fail
    refine (refPrint_any A c g L (n + 1024) yp.1 _ _ _ (ha.fr0 hFw) hL ⟨A5, c5, rfl, hRV⟩ hy2).mono ?_
    rw [hpri.out]
    rintro e wp ⟨rfl, hfp⟩
    have hFp := hFw.trans hfp
    have hfp := hfw.trans hfp
    have hb3 := hB3.fr hfp (by simp)
    clear q0 y0 y1 y2 hBV hRV
    have e0 := hb3.cell 0 rfl
    have e1 := hb3.cell 1 rfl
    have e2 := hb3.cell 2 rfl
    have e3 := hb3.cell 3 rfl
    go_wp2_with fail
    refine (SayText_any _ o (textL g yp.1) _ (HOV.out.fr0 hFp) HG.out htl).mono ?_
    rintro e ws ⟨rfl, hfs⟩
    go_wp2_with fail
    go_roundw
    case rel => exact ⟨k + 1, by omega, by go_num, hfp.trans hfs⟩
    case measure => simp [intOf]; omega
   ·obtain ⟨V, hV⟩ : ∃ V, V = ((wa.setCell ⟨wr.heap.size + 1, 0, none⟩ (.int .i64 yp.1.kind)).setCell ⟨wr.heap.size + 1, 1, none⟩ (.string yp.1.text)).setCell ⟨wr.heap.size + 1, 2, none⟩ (.slice A5 yp.1.slots.length c5) := ⟨_, rfl⟩
    obtain ⟨bx, hbx⟩ : ∃ bx, bx = wr.heap.size + 1 := ⟨_, rfl⟩
    have hFV : Fr [] wr V := by rw [hV]; exact fr_three hFb (.inr (Nat.le_succ _)) _ _ _
    have hBV : Blk V bx 27 #[.int .i64 yp.1.kind, .string yp.1.text, .slice A5 yp.1.slots.length c5] := by rw [hV, hbx]; exact hBz.three _ _ _
    have hRV : RH (fun _ => False) (n + 1024) V A5 c5 yp.1 := by rw [hV]; exact (hRx.fr (Z := [wr.heap.size + 1]) (fr_three (Fr.refl _ _) (.inl (by simp)) _ _ _) (List.forall_mem_singleton.2 (by simp <;> omega))).sub fun _ _ h => h.elim
    have hzb : wr.heap.size ≤ bx := by rw [hbx]; omega
    have HV := Lib.hid hV.symm
    have HX := Lib.hid hbx.symm
    clear hV hbx
    rw [HV.out, HX.out]
    clear HV HX hfa hFb hRx
    try clear hFc
    try clear hFd
    try clear hBz
    try clear u0 u1 u2 v0 v1 v2
    have hFw := hFr.trans hFV
    have hfw := hf.trans hFV
    have q0 : V.cell? ⟨w.heap.size, 0, none⟩ = some (.slice A g.length c) := (hB1.fr hfw (by simp)).cell 0 rfl
    have y0 : V.cell? ⟨bx, 0, none⟩ = some (.int .i64 yp.1.kind) := hBV.cell 0 rfl
    have y1 : V.cell? ⟨bx, 1, none⟩ = some (.string yp.1.text) := hBV.cell 1 rfl
    have y2 : V.cell? ⟨bx, 2, none⟩ = some (.slice A5 yp.1.slots.length c5) := hBV.cell 2 rfl
    go_wp2_with fail
    refine (refPrint_any A c g L (n + 1024) yp.1 _ _ _ (ha.fr0 hFw) hL ⟨A5, c5, rfl, hRV⟩ hy2).mono ?_
    rw [hpri.out]
    rintro e wp ⟨rfl, hfp⟩
    have hFp := hFw.trans hfp
    have hfp := hfw.trans hfp
    have hb3 := hB3.fr hfp (by simp)
    clear q0 y0 y1 y2 hBV hRV
    have e0 := hb3.cell 0 rfl
    have e1 := hb3.cell 1 rfl
    have e2 := hb3.cell 2 rfl
    have e3 := hb3.cell 3 rfl
    go_wp2_with fail
    refine (SayText_any _ o (textL g yp.1) _ (HOV.out.fr0 hFp) HG.out htl).mono ?_
    rintro e ws ⟨rfl, hfs⟩
    go_wp2_with fail
    go_roundw
    case rel => exact ⟨k + 1, by omega, by go_num, hfp.trans hfs⟩
    case measure => simp [intOf]; omega
   ·obtain ⟨V, hV⟩ : ∃ V, V = ((wa.setCell ⟨wr.heap.size, 0, none⟩ (.int .i64 yp.1.kind)).setCell ⟨wr.heap.size, 1, none⟩ (.string yp.1.text)).setCell ⟨wr.heap.size, 2, none⟩ (.slice A5 yp.1.slots.length c5) := ⟨_, rfl⟩
    obtain ⟨bx, hbx⟩ : ∃ bx, bx = wr.heap.size := ⟨_, rfl⟩
    have hFV : Fr [] wr V := by rw [hV]; exact fr_three hFb (.inr (Nat.le_refl _)) _ _ _
    have hBV : Blk V bx 27 #[.int .i64 yp.1.kind, .string yp.1.text, .slice A5 yp.1.slots.length c5] := by rw [hV, hbx]; exact hBz.three _ _ _
    have hRV : RH (fun _ => False) (n + 1024) V A5 c5 yp.1 := by rw [hV]; exact (hRx.fr (Z := [wr.heap.size]) (fr_three (Fr.refl _ _) (.inl (by simp)) _ _ _) (List.forall_mem_singleton.2 (by simp <;> omega))).sub fun _ _ h => h.elim
    have hzb : wr.heap.size ≤ bx := by rw [hbx]; omega
    have HV := Lib.hid hV.symm
    have HX := Lib.hid hbx.symm
    clear hV hbx
    rw [HV.out, HX.out]
    clear HV HX hfa hFb hRx
    try clear hFc
    try clear hFd
    try clear hBz
    try clear u0 u1 u2 v0 v1 v2
    have hFw := hFr.trans hFV
    have hfw := hf.trans hFV
    have q0 : V.cell? ⟨w.heap.size, 0, none⟩ = some (.slice A g.length c) := (hB1.fr hfw (by simp)).cell 0 rfl
    have y0 : V.cell? ⟨bx, 0, none⟩ = some (.int .i64 yp.1.kind) := hBV.cell 0 rfl
    have y1 : V.cell? ⟨bx, 1, none⟩ = some (.string yp.1.text) := hBV.cell 1 rfl
    have y2 : V.cell? ⟨bx, 2, none⟩ = some (.slice A5 yp.1.slots.length c5) := hBV.cell 2 rfl
    go_wp2_with fail
    refine (refPrint_any A c g L (n + 1024) yp.1 _ _ _ (ha.fr0 hFw) hL ⟨A5, c5, rfl, hRV⟩ hy2).mono ?_
    rw [hpri.out]
    rintro e wp ⟨rfl, hfp⟩
    have hFp := hFw.trans hfp
    have hfp := hfw.trans hfp
    have hb3 := hB3.fr hfp (by simp)
    clear q0 y0 y1 y2 hBV hRV
    have e0 := hb3.cell 0 rfl
    have e1 := hb3.cell 1 rfl
    have e2 := hb3.cell 2 rfl
    have e3 := hb3.cell 3 rfl
    go_wp2_with fail
    refine (SayText_any _ o (textL g yp.1) _ (HOV.out.fr0 hFp) HG.out htl).mono ?_
    rintro e ws ⟨rfl, hfs⟩
    go_wp2_with fail
    go_roundw
    case rel => exact ⟨k + 1, by omega, by go_num, hfp.trans hfs⟩
    case measure => simp [intOf]; omega
  ·have hFr := hF1.trans hf
   have p0 : wr.cell? ⟨w.heap.size + 1, 0, none⟩ = some (.int .i64 t.kind) := (hB2.fr hf (by simp)).cell 0 rfl
   have p1 : wr.cell? ⟨w.heap.size + 1, 1, none⟩ = some (.string t.text) := (hB2.fr hf (by simp)).cell 1 rfl
   have p2 : wr.cell? ⟨w.heap.size + 1, 2, none⟩ = some (.slice AT t.slots.length cT) := (hB2.fr hf (by simp)).cell 2 rfl
   go_wp2_with fail
   refine (refNodes_any n t _ S _ ⟨AT, cT, rfl, hR.fr0 hFr⟩ (by omega)).mono ?_
   rintro e w2 ⟨rfl, hf2⟩
   have hF2 := hFr.trans hf2
   have hB1 := (hB1.fr hf (by simp)).fr hf2 (by simp)
   have hB2 := (hB2.fr hf (by simp)).fr hf2 (by simp)
   have hB3 := (hB3.fr hf (by simp)).fr hf2 (by simp)
   clear p0 p1 p2
   go_wp2_with fail
   clear hf hFr
   go_loopw [15] (fun iv wr => ∃ a : Nat, a ≤ t.nodes ∧ iv = .int .i64 a ∧ Fr [] w2 wr) (fun i _ => t.nodes - (intOf i).toNat)
   case atStart => exact ⟨0, Nat.zero_le _, rfl, Fr.refl _ _⟩
   case round =>
    obtain ⟨a, hale, rfl, hfo⟩ := hrel
    obtain ⟨wo, hwo⟩ : ∃ wo, wo = wr := ⟨_, rfl⟩
    rw [← hwo] at hfo ⊢
    clear hwo
    by_cases halt : a < t.nodes
    ·go_wp2_with fail
     go_loopw [16] (fun iv wr => ∃ f : Nat, f ≤ t.nodes ∧ iv = .int .i64 f ∧ Fr [] wo wr) (fun i _ => t.nodes - (intOf i).toNat)
     case atStart => exact ⟨a + 1, halt, by go_num, Fr.refl _ _⟩
     case round =>
      obtain ⟨f, hfle, rfl, hfi⟩ := hrel
      have hfr := hfo.trans hfi
      have hFr := hF2.trans hfr
      by_cases hflt : f < t.nodes
      ·have q0 : wr.cell? ⟨w.heap.size, 0, none⟩ = some (.slice A g.length c) := (hB1.fr hfr (by simp)).cell 0 rfl
       have p0 : wr.cell? ⟨w.heap.size + 1, 0, none⟩ = some (.int .i64 t.kind) := (hB2.fr hfr (by simp)).cell 0 rfl
       have p1 : wr.cell? ⟨w.heap.size + 1, 1, none⟩ = some (.string t.text) := (hB2.fr hfr (by simp)).cell 1 rfl
       have p2 : wr.cell? ⟨w.heap.size + 1, 2, none⟩ = some (.slice AT t.slots.length cT) := (hB2.fr hfr (by simp)).cell 2 rfl
       have hHaf := HH.out a f
       obtain ⟨yp, hyp⟩ : ∃ y, hoistE g L t a f = y := ⟨_, rfl⟩
       rw [hyp] at hHaf
       have HYP := Lib.hid hyp
       have HHA := Lib.hid hHaf
       clear hyp hHaf
       have hn2 : t.nodes ≤ 1024 := by omega
       go_wp2_with fail
       refine (rhoist (n := n) (S := S) (at_ := (a : Int)) (from_ := (f : Int)) (ha.fr0 hFr) hL ⟨AT, cT, rfl, hR.fr0 hFr⟩ hn2).mono ?_
       rw [HYP.out]
       rintro e wa ⟨A5, c5, rfl, hfa, hRx⟩
       clear q0 p0 p1 p2
       obtain ⟨V, hV⟩ : ∃ V, V = wa.alloc (.cells #[.int .i64 yp.1.kind, .string yp.1.text, .slice A5 yp.1.slots.length c5] 27) := ⟨_, rfl⟩
       obtain ⟨bx, hbx⟩ : ∃ bx, bx = wa.heap.size := ⟨_, rfl⟩
       have hFV : Fr [] wr V := by rw [hV]; exact hfa.alloc _
       have hBV : Blk V bx 27 #[.int .i64 yp.1.kind, .string yp.1.text, .slice A5 yp.1.slots.length c5] := by rw [hV, hbx]; exact Blk.new _ _ _ _ rfl
       have hRV : RH (fun _ => False) (n + n) V A5 c5 yp.1 := by rw [hV]; exact (hRx.fr0 ((Fr.refl _ _).alloc _)).sub fun _ _ h => h.elim
       have HV := Lib.hid hV.symm
       have HX := Lib.hid hbx.symm
       clear hV hbx hfa hRx
       have hFw := hFr.trans hFV
       have hfw := hfr.trans hFV
       have hfiV := hfi.trans hFV
       by_cases he : yp.2 = 0
       ·obtain ⟨hy1, hy2, hy3⟩ := HHA.out he
        have hpri : Hid (printOf g L yp.1 = (textL g yp.1, 0)) := printOf_ok hy1
        have htl : (textL g yp.1).length ≤ 1000000 := (chkT_text hy1).2
        have hsb : (sayT o (textL g yp.1) == 2) = false := beq_false_of_ne hy3
        clear hy1 hy3
        have q0 : V.cell? ⟨w.heap.size, 0, none⟩ = some (.slice A g.length c) := (hB1.fr hfw (by simp)).cell 0 rfl
        have y0 : V.cell? ⟨bx, 0, none⟩ = some (.int .i64 yp.1.kind) := hBV.cell 0 rfl
        have y1 : V.cell? ⟨bx, 1, none⟩ = some (.string yp.1.text) := hBV.cell 1 rfl
        have y2 : V.cell? ⟨bx, 2, none⟩ = some (.slice A5 yp.1.slots.length c5) := hBV.cell 2 rfl
        rw [← HV.out] at q0 y0 y1 y2
        rw [← HX.out] at y0 y1 y2
        rw [he]
        clear he
        go_wp2_with fail
        rw [HV.out, HX.out]
        clear q0 y0 y1 y2
        refine (refPrint_any A c g L (n + n) yp.1 _ _ _ (ha.fr0 hFw) hL ⟨A5, c5, rfl, hRV⟩ hy2).mono ?_
        rw [hpri.out]
        rintro e wp ⟨rfl, hfp⟩
        have hFp := hFw.trans hfp
        have hfiV := hfiV.trans hfp
        have hfp := hfw.trans hfp
        have hb3 := hB3.fr hfp (by simp)
        clear hBV hRV HV HX
        have e0 := hb3.cell 0 rfl
        have e1 := hb3.cell 1 rfl
        have e2 := hb3.cell 2 rfl
        have e3 := hb3.cell 3 rfl
        go_wp2_with fail
        refine (SayText_any _ o (textL g yp.1) _ (HOV.out.fr0 hFp) HG.out htl).mono ?_
        rintro e ws ⟨rfl, hfs⟩
        go_wp2_with fail
        go_roundw
        case rel => exact ⟨f + 1, by omega, by go_num, hfiV.trans hfs⟩
        case measure => simp [intOf]; omega
       ·have dne : (yp.2 == 0) = false := beq_false_of_ne he
        clear hBV hRV HHA hFw
        go_wp2_with fail
        rw [HV.out]
        go_roundw
        case rel => exact ⟨f + 1, by omega, by go_num, hfiV⟩
        case measure => simp [intOf]; omega
      ·go_wp2_with fail
       go_roundw
       case rel => exact ⟨a + 1, by omega, by go_num, hfr⟩
       case measure => simp [intOf]; omega
    ·go_wp2_with fail
     go_ret
     exact ⟨rfl, hF2.trans hfo⟩
end

end Go.Proofs.YtippadnbngcjlaaGreatDoor
