/- Texts of this seat, one behind the other: ScO. -/
import Derived.Test.YtchldahkcpbgcaaGreatDoorsk36
import Derived.Test.YtchldahkcpbgcaaGreatDoorsk8
import Derived.Test.YtchldahkcpbgcaaGreatDoorsk19
import Derived.Deep.DeepCutAuto
namespace Go.Proofs.YtchldahkcpbgcaaGreatDoor
set_option linter.unusedVariables false

/- A scope's own calls: over, declares, uses. -/
section
open Go.RowKit
set_option linter.unusedSimpArgs false
section
variable {b mb : Nat} {stv : Value} {c : Sc} {w : World}
theorem over_any (h : ScW b mb stv c w) : Calls Tryz.prog 206 #[.pointer (some ⟨b, 0, none⟩)] w (RetV w (.bool c.over)) := by
 obtain ⟨A1, c1, A2, c2, A3, c3, hB, hR⟩ := h
 have q5 : w.cell? ⟨b, 5, none⟩ = some (.int .i64 c.fault) := hB.cell 5 rfl
 have q7 : w.cell? ⟨b, 7, none⟩ = some (.bool c.ended) := hB.cell 7 rfl
 clear hB hR
 unfold Sc.over
 by_cases hz : c.fault = 0
 ·have e : (c.fault != 0) = false := by simpa using hz
  go_enter Tryz.func206, Tryz.ntmps206
  go_wp2
  go_ret
  exact ⟨ret_bool (by simp [hz]), frx⟩
 ·have e : (c.fault != 0) = true := by simpa using hz
  go_enter Tryz.func206, Tryz.ntmps206
  go_wp2
  go_ret
  exact ⟨ret_bool (by simp [hz]), frx⟩
theorem ScR.put {A1 A2 A3 : Option Addr} {c1 c2 c3 : Nat} (h : ScR b c w A1 c1 A2 c2 A3 c3) (i : Nat) (u : Value) : ScR b c (w.setCell ⟨b, i, none⟩ u) A1 c1 A2 c2 A3 c3 := h.fr (Z := [b]) ((Fr.refl _ _).setCell (.inl (by simp)) _) (by simp)
theorem ScR.like {c' : Sc} {A1 A2 A3 : Option Addr} {c1 c2 c3 : Nat} (h : ScR b c w A1 c1 A2 c2 A3 c3) (e1 : c'.decl = c.decl) (e2 : c'.outer = c.outer) (e3 : c'.inner = c.inner) : ScR b c' w A1 c1 A2 c2 A3 c3 := by
 obtain ⟨d, o, i, f, ft, e, n⟩ := c'
 subst e1 e2 e3
 exact ⟨h.o1, h.o2, h.o3, h.n12, h.n13, h.n23, h.l1, h.l2, h.l3⟩
theorem NmR.of {b c : Nat} {A : Option Addr} {l : List ByteArray} {nm : ByteArray} (h : w.ownsRow (b + 1) 9 1 (.slice A (l.length + 1) c) (l.length + 1) (l.map .string ++ [.string nm])) : NmR w b A c (l ++ [nm]) := by
 unfold NmR
 simpa using h
def ScD (b mb : Nat) (stv : Value) (c' : Sc) (w : World) (en : Ending) (w' : World) : Prop := en = .returned (.tuple #[]) ∧ ScW b mb stv c' w' ∧ Below b w w'
theorem fr_below {w w' : World} (hb : b ≤ w.heap.size) (h : Fr [b] w w') : Below b w w' := h.belowB (by simp) hb
theorem own_not {w : World} {b n sz : Nat} {e : TypeId} {v : Value} {xs : List Value} (h : w.ownsRow (b + 1) e sz v n xs) : some b ≠ v.ownBlock := fun e => by
 have := (h.lt b e.symm).1
 omega
theorem NmR.set {b c : Nat} {A : Option Addr} {l : List ByteArray} (h : NmR w b A c l) (i : Nat) (u : Value) : NmR (w.setCell ⟨b, i, none⟩ u) b A c l :=
 own_fr h (S := [b]) ((Fr.refl _ _).setCell (.inl (by simp)) u) fun k hk hm => by
  have := (h.lt k hk).1
  simp at hm
  omega
theorem decl_over {nm : ByteArray} (h : c.over = true) : c.declares nm = c := by unfold Sc.declares; rw [if_pos h]
theorem decl_twice {nm : ByteArray} (h : c.over = false) (h1 : inS c.decl nm = true) : c.declares nm = { c with fault := 6 } := by unfold Sc.declares; rw [if_neg (by simp [h]), if_pos h1]
theorem decl_limit {nm : ByteArray} (h : c.over = false) (h1 : inS c.decl nm = false) (h2 : 64 ≤ c.decl.length) : c.declares nm = { c with fault := 3 } := by unfold Sc.declares; rw [if_neg (by simp [h]), if_neg (by simp [h1]), if_pos h2]
theorem decl_in {nm : ByteArray} (h : c.over = false) (h1 : inS c.decl nm = false) (h2 : ¬ 64 ≤ c.decl.length) (h3 : c.inFn = true) : c.declares nm = { c with decl := c.decl ++ [nm], inner := c.inner ++ [nm] } := by unfold Sc.declares; rw [if_neg (by simp [h]), if_neg (by simp [h1]), if_neg h2, if_pos h3, if_pos h3]
theorem decl_out {nm : ByteArray} (h : c.over = false) (h1 : inS c.decl nm = false) (h2 : ¬ 64 ≤ c.decl.length) (h3 : c.inFn = false) : c.declares nm = { c with decl := c.decl ++ [nm], outer := c.outer ++ [nm] } := by unfold Sc.declares; rw [if_neg (by simp [h]), if_neg (by simp [h1]), if_neg h2, if_neg (by simp [h3]), if_neg (by simp [h3])]
theorem uses_no {nm : ByteArray} (h : c.over = true ∨ inS c.outer nm = true ∨ inS c.inner nm = true) : c.uses nm = c := by
 unfold Sc.uses
 rw [if_neg]
 rcases h with h | h | h <;> simp [h]
theorem uses_bad {nm : ByteArray} (h : c.over = false) (h1 : inS c.outer nm = false) (h2 : inS c.inner nm = false) : c.uses nm = { c with fault := 5 } := by unfold Sc.uses; rw [if_pos (by simp [h, h1, h2])]
set_option maxHeartbeats 3200000 in
set_option maxRecDepth 20000 in
theorem declares_any (h : ScW b mb stv c w) (nm : ByteArray) : Calls Tryz.prog 173 #[.pointer (some ⟨b, 0, none⟩), .string nm] w (ScD b mb stv (c.declares nm) w) := by
  have HO := Lib.hid (over_any h)
  have hlt := h.lt
  have hS := h
  obtain ⟨A1, c1, A2, c2, A3, c3, hB, hR⟩ := h
  have hl1 : c.decl.length ≤ 64 := hR.l1
  have hl2 : c.outer.length ≤ c.decl.length := hR.l2
  have hl3 : c.inner.length ≤ c.decl.length := hR.l3
  obtain ⟨c', hc'⟩ : ∃ x, c.declares nm = x := ⟨_, rfl⟩
  rw [hc']
  have HD := Lib.hid hc'
  clear hc'
  obtain ⟨ov, hov⟩ : ∃ x, c.over = x := ⟨_, rfl⟩
  rw [hov] at HO
  have HV := Lib.hid hov
  clear hov
  cases ov with
  | true =>
    have HE := Lib.hid ((decl_over HV.out).symm.trans HD.out)
    clear hB hR
    go_enter Tryz.func173, Tryz.ntmps173
    go_wp2_with fail
    refine HO.out.mono ?_
    rintro e w1 ⟨rfl, hf1⟩
    go_wp2
    go_end0
    exact ⟨rfl, by rw [← HE.out]; exact hS.fr0 hf1, hf1.belowB (by simp) (Nat.le_of_lt hlt)⟩
  | false =>
    clear hS
    have hq1 : w.cell? ⟨b, 1, none⟩ = some (.slice A1 c.decl.length c1) := hB.cell 1 rfl
    obtain ⟨bi, hbi⟩ : ∃ x, inS c.decl nm = x := ⟨_, rfl⟩
    have HC : Hid (∀ W, Fr [] w W → Calls Tryz.prog 142 #[.slice A1 c.decl.length c1, .string nm] W (RetV W (.bool bi))) := Lib.hid fun W hf => ((Contains_any A1 c1 c.decl nm W (hR.o1.rd.fr0 hf)).mono fun _ _ h => by rw [← hbi]; exact h.v)
    go_enter Tryz.func173, Tryz.ntmps173
    go_wp2_with fail
    refine HO.out.mono ?_
    rintro e w1 ⟨rfl, hf1⟩
    have hq1 := hf1.cell hq1 (by simp)
    go_wp2_with fail
    refine (HC.out _ hf1).mono ?_
    rintro e w2 ⟨rfl, hf2⟩
    have hf := hf1.trans hf2
    have hB := hB.fr hf (by simp)
    have hR := hR.fr hf (by simp)
    clear HO HC hf1 hf2 hq1
    have HI := Lib.hid hbi
    clear hbi
    have q1 : w2.cell? ⟨b, 1, none⟩ = some (.slice A1 c.decl.length c1) := hB.cell 1 rfl
    have q2 : w2.cell? ⟨b, 2, none⟩ = some (.slice A2 c.outer.length c2) := hB.cell 2 rfl
    have q3 : w2.cell? ⟨b, 3, none⟩ = some (.slice A3 c.inner.length c3) := hB.cell 3 rfl
    have q4 : w2.cell? ⟨b, 4, none⟩ = some (.bool c.inFn) := hB.cell 4 rfl
    have q5 : w2.cell? ⟨b, 5, none⟩ = some (.int .i64 c.fault) := hB.cell 5 rfl
    have f1 := hB.frozen 1
    have f2 := hB.frozen 2
    have f3 := hB.frozen 3
    have f5 := hB.frozen 5
    have hb2 : b < w2.heap.size := hB.lt
    have HB := Lib.hid hB
    clear hB
    cases bi with
    | true =>
      have HE := Lib.hid ((decl_twice HV.out HI.out).symm.trans HD.out)
      go_wp2
      go_end0
      exact ⟨rfl, by rw [← HE.out]; exact ⟨A1, c1, A2, c2, A3, c3, by simpa using HB.out.set_ 5 (.int .i64 6), (hR.put 5 (.int .i64 6)).like rfl rfl rfl⟩, fr_below (Nat.le_of_lt hlt) ((hf.mono (by simp)).trans ((Fr.refl _ _).setCell (.inl (by simp)) _))⟩
    | false =>
      by_cases h64 : 64 ≤ c.decl.length
      · have HE := Lib.hid ((decl_limit HV.out HI.out h64).symm.trans HD.out)
        have h64' : (64 : Int) ≤ c.decl.length := by omega
        clear h64
        go_wp2
        go_end0
        exact ⟨rfl, by rw [← HE.out]; exact ⟨A1, c1, A2, c2, A3, c3, by simpa using HB.out.set_ 5 (.int .i64 3), (hR.put 5 (.int .i64 3)).like rfl rfl rfl⟩, fr_below (Nat.le_of_lt hlt) ((hf.mono (by simp)).trans ((Fr.refl _ _).setCell (.inl (by simp)) _))⟩
      · have HN := Lib.hid h64
        have h64' : ¬ (64 : Int) ≤ c.decl.length := by omega
        clear h64
        have hbl := (hf.belowB (B := b) (by simp) (Nat.le_of_lt hlt))
        go_upto_region 6 with (at_builtin; refine wpList_append_rd rfl (.tmp 31) (.tmp 33) _ rfl elemStN (.slice A1 c.decl.length c1) (c.decl.map .string) rfl (hR.o1.alloc _) (some ⟨w2.heap.size, 0, none⟩) 1 [nm] .string rfl (Rd.one w2 _ .string nm) (fun _ => rfl) (by simp; omega) (by simp; omega) ?_; intro A1' c1' w3 ho3 hg3 hat3; have HB3 := Lib.hid ((HB.out.alloc _).grown hg3 (own_not hR.o1)); have f1 := HB3.out.frozen 1; have p1 : w3.cell? ⟨b, 1, none⟩ = _ := HB3.out.cell 1 rfl)
        have hk2 := NmR.keep (hR.o2.alloc _) hR.n12 hg3 hat3
        have hk3 := NmR.keep (hR.o3.alloc _) hR.n13 hg3 hat3
        have n23 := hR.n23
        have hb3 := ((hbl.alloc (by omega) _).grown hg3 (by simp; omega) (fun k hk => by have := (hR.o1.lt k hk).1; omega)).setCell (p := ⟨b, 1, none⟩) (Nat.le_refl _) (.slice A1' (c.decl.length + 1) c1')
        refine wp_hide (fun M hM => ?_)
        rw [← hM] at hb3
        have hBM : Blk M b 161 #[.map (some mb), .slice A1' (c.decl.length + 1) c1', .slice A2 c.outer.length c2, .slice A3 c.inner.length c3, .bool c.inFn, .int .i64 c.fault, stv, .bool c.ended] := by rw [hM]; simpa using HB3.out.set_ 1 (.slice A1' (c.decl.length + 1) c1')
        have o1 : NmR M b A1' c1' (c.decl ++ [nm]) := by rw [hM]; exact NmR.set (b := b) (A := A1') (c := c1') (l := c.decl ++ [nm]) (NmR.of (by simpa using ho3)) 1 (.slice A1' (c.decl.length + 1) c1')
        have o2 : NmR M b A2 c2 c.outer := by rw [hM]; exact NmR.set hk2.1 1 _
        have o3 : NmR M b A3 c3 c.inner := by rw [hM]; exact NmR.set hk3.1 1 _
        have n12 := hk2.2
        have n13 := hk3.2
        clear hk2 hk3 ho3 hg3 hat3 HB3 HB hM hR q1 q2 q3 q4 q5 f1 f2 f3 f5 hb2
        have q2 : M.cell? ⟨b, 2, none⟩ = some (.slice A2 c.outer.length c2) := hBM.cell 2 rfl
        have q3 : M.cell? ⟨b, 3, none⟩ = some (.slice A3 c.inner.length c3) := hBM.cell 3 rfl
        have q4 : M.cell? ⟨b, 4, none⟩ = some (.bool c.inFn) := hBM.cell 4 rfl
        have hb2 : b < M.heap.size := hBM.lt
        have HB := Lib.hid hBM
        clear hBM
        obtain ⟨cf, hcf⟩ : ∃ x, c.inFn = x := ⟨_, rfl⟩
        have HF := Lib.hid hcf
        rw [hcf] at q4
        clear hcf
        cases cf with
        | true =>
          have HE := Lib.hid ((decl_in HV.out HI.out HN.out HF.out).symm.trans HD.out)
          go_wp2_with (at_builtin; refine wpList_append_rd rfl (.tmp 45) (.tmp 47) _ rfl elemStN (.slice A3 c.inner.length c3) (c.inner.map .string) rfl (o3.alloc _) (some ⟨M.heap.size, 0, none⟩) 1 [nm] .string rfl (Rd.one M _ .string nm) (fun _ => rfl) (by simp; omega) (by simp; omega) ?_; intro A3' c3' w5 ho5 hg5 hat5; have HB5 := Lib.hid ((HB.out.alloc _).grown hg5 (own_not o3)); have f3 := HB5.out.frozen 3; have p3 : w5.cell? ⟨b, 3, none⟩ = _ := HB5.out.cell 3 rfl)
          have hk1 := NmR.keep (o1.alloc _) n13.symm hg5 hat5
          have hk2 := NmR.keep (o2.alloc _) n23.symm hg5 hat5
          go_end0
          rw [← HE.out]
          refine ⟨rfl, ⟨A1', c1', A2, c2, A3', c3', by simpa [scC] using HB5.out.set_ 3 (.slice A3' (c.inner.length + 1) c3'), NmR.set hk1.1 3 _, NmR.set hk2.1 3 _, ?_, n12, hk1.2.symm, hk2.2.symm, ?_, ?_, ?_⟩, ((hb3.alloc (by omega) _).grown hg5 (by simp; omega) (fun k hk => by have := (o3.lt k hk).1; omega)).setCell (p := ⟨b, 3, none⟩) (Nat.le_refl _) _⟩
          · exact NmR.set (b := b) (A := A3') (c := c3') (l := c.inner ++ [nm]) (NmR.of (by simpa using ho5)) 3 (.slice A3' (c.inner.length + 1) c3')
          all_goals (simp; omega)
        | false =>
          have HE := Lib.hid ((decl_out HV.out HI.out HN.out HF.out).symm.trans HD.out)
          go_wp2_with (at_builtin; refine wpList_append_rd rfl (.tmp 55) (.tmp 57) _ rfl elemStN (.slice A2 c.outer.length c2) (c.outer.map .string) rfl (o2.alloc _) (some ⟨M.heap.size, 0, none⟩) 1 [nm] .string rfl (Rd.one M _ .string nm) (fun _ => rfl) (by simp; omega) (by simp; omega) ?_; intro A2' c2' w5 ho5 hg5 hat5; have HB5 := Lib.hid ((HB.out.alloc _).grown hg5 (own_not o2)); have f2 := HB5.out.frozen 2; have p2 : w5.cell? ⟨b, 2, none⟩ = _ := HB5.out.cell 2 rfl)
          have hk1 := NmR.keep (o1.alloc _) n12.symm hg5 hat5
          have hk3 := NmR.keep (o3.alloc _) n23 hg5 hat5
          go_end0
          rw [← HE.out]
          refine ⟨rfl, ⟨A1', c1', A2', c2', A3, c3, by simpa [scC] using HB5.out.set_ 2 (.slice A2' (c.outer.length + 1) c2'), NmR.set hk1.1 2 _, ?_, NmR.set hk3.1 2 _, hk1.2.symm, n13, hk3.2, ?_, ?_, ?_⟩, ((hb3.alloc (by omega) _).grown hg5 (by simp; omega) (fun k hk => by have := (o2.lt k hk).1; omega)).setCell (p := ⟨b, 2, none⟩) (Nat.le_refl _) _⟩
          · exact NmR.set (b := b) (A := A2') (c := c2') (l := c.outer ++ [nm]) (NmR.of (by simpa using ho5)) 2 (.slice A2' (c.outer.length + 1) c2')
          all_goals (simp; omega)
set_option maxHeartbeats 1600000 in
theorem uses_any (h : ScW b mb stv c w) (nm : ByteArray) : Calls Tryz.prog 224 #[.pointer (some ⟨b, 0, none⟩), .string nm] w (ScD b mb stv (c.uses nm) w) := by
  have HO := Lib.hid (over_any h)
  have hlt := h.lt
  have hS := h
  obtain ⟨A1, c1, A2, c2, A3, c3, hB, hR⟩ := h
  obtain ⟨c', hc'⟩ : ∃ x, c.uses nm = x := ⟨_, rfl⟩
  rw [hc']
  have HD := Lib.hid hc'
  clear hc'
  obtain ⟨ov, hov⟩ : ∃ x, c.over = x := ⟨_, rfl⟩
  rw [hov] at HO
  have HV := Lib.hid hov
  clear hov
  obtain ⟨b2, hb2⟩ : ∃ x, inS c.outer nm = x := ⟨_, rfl⟩
  obtain ⟨b3, hb3⟩ : ∃ x, inS c.inner nm = x := ⟨_, rfl⟩
  have H2 : Hid (∀ W, Fr [] w W → Calls Tryz.prog 142 #[.slice A2 c.outer.length c2, .string nm] W (RetV W (.bool b2))) := Lib.hid fun W hf => ((Contains_any A2 c2 c.outer nm W (hR.o2.rd.fr0 hf)).mono fun _ _ h => by rw [← hb2]; exact h.v)
  have H3 : Hid (∀ W, Fr [] w W → Calls Tryz.prog 142 #[.slice A3 c.inner.length c3, .string nm] W (RetV W (.bool b3))) := Lib.hid fun W hf => ((Contains_any A3 c3 c.inner nm W (hR.o3.rd.fr0 hf)).mono fun _ _ h => by rw [← hb3]; exact h.v)
  have HI2 := Lib.hid hb2
  have HI3 := Lib.hid hb3
  clear hb2 hb3
  have q2 : w.cell? ⟨b, 2, none⟩ = some (.slice A2 c.outer.length c2) := hB.cell 2 rfl
  have q3 : w.cell? ⟨b, 3, none⟩ = some (.slice A3 c.inner.length c3) := hB.cell 3 rfl
  go_enter Tryz.func224, Tryz.ntmps224
  go_wp2_with fail
  refine HO.out.mono ?_
  rintro e w1 ⟨rfl, hf1⟩
  cases ov with
  | true =>
    go_wp2
    go_end0
    exact ⟨rfl, by rw [← HD.out, uses_no (.inl HV.out)]; exact hS.fr0 hf1, hf1.belowB (by simp) (Nat.le_of_lt hlt)⟩
  | false =>
    have q2 := hf1.cell q2 (by simp)
    go_wp2_with fail
    refine (H2.out _ hf1).mono ?_
    rintro e w2 ⟨rfl, hf2⟩
    have hf2 := hf1.trans hf2
    cases b2 with
    | true =>
      go_wp2
      go_end0
      exact ⟨rfl, by rw [← HD.out, uses_no (.inr (.inl HI2.out))]; exact hS.fr0 hf2, hf2.belowB (by simp) (Nat.le_of_lt hlt)⟩
    | false =>
      have q3 := hf2.cell q3 (by simp)
      go_wp2_with fail
      refine (H3.out _ hf2).mono ?_
      rintro e w3 ⟨rfl, hf3⟩
      have hf3 := hf2.trans hf3
      cases b3 with
      | true =>
        go_wp2
        go_end0
        exact ⟨rfl, by rw [← HD.out, uses_no (.inr (.inr HI3.out))]; exact hS.fr0 hf3, hf3.belowB (by simp) (Nat.le_of_lt hlt)⟩
      | false =>
        have hB := hB.fr hf3 (by simp)
        have hR := hR.fr hf3 (by simp)
        have f5 := hB.frozen 5
        have q5 : w3.cell? ⟨b, 5, none⟩ = some (.int .i64 c.fault) := hB.cell 5 rfl
        have HB := Lib.hid hB
        clear hB hS q2 q3
        go_wp2
        go_end0
        exact ⟨rfl, by rw [← HD.out, uses_bad HV.out HI2.out HI3.out]; exact ⟨A1, c1, A2, c2, A3, c3, by simpa using HB.out.set_ 5 (.int .i64 5), (hR.put 5 (.int .i64 5)).like rfl rfl rfl⟩, fr_below (Nat.le_of_lt hlt) ((hf3.mono (by simp)).trans ((Fr.refl _ _).setCell (.inl (by simp)) _))⟩
end
end

end Go.Proofs.YtchldahkcpbgcaaGreatDoor
