/- Texts of this seat, one behind the other: ScB, ScC. -/
import Derived.Test.YtchldahkcpbgcaaGreatDoorsb38
import Derived.Test.YtchldahkcpbgcaaGreatDoorsb27
import Derived.Deep.DeepCutAuto
namespace Go.Proofs.YtchldahkcpbgcaaGreatDoor
set_option linter.unusedVariables false

/- What a scope says of expressions and statements. -/
section
open Go.RowKit
set_option linter.unusedSimpArgs false
def StV (B b : Nat) (stv : Value) (st : Option Int) (cnt : Nat) (w : World) : Prop :=
 (st = none ∧ stv = .nilFunc) ∨ ∃ z g h, st = some z ∧ stv = .func (.func 130) #[] #[.pointer (some ⟨g, 0, none⟩), .pointer (some ⟨h, 0, none⟩)] ∧ B ≤ g ∧ g < b ∧ Blk w g 3 #[.int .i64 cnt] ∧ h < B ∧ w.cell? ⟨h, 0, none⟩ = some (.int .i64 z)
theorem StV.belowb {B b : Nat} {stv : Value} {st : Option Int} {cnt : Nat} {w w' : World} (h : StV B b stv st cnt w) (hf : Below b w w') (hB : B ≤ b) : StV B b stv st cnt w' := by
 rcases h with h | ⟨z, g, k, h1, h2, h3, h4, h5, h6, h7⟩
 ·exact .inl h
 ·exact .inr ⟨z, g, k, h1, h2, h3, h4, (hf.block g h4).trans h5, h6, by rw [hf.cell (Nat.lt_of_lt_of_le h6 hB)]; exact h7⟩
structure SWx (B b mb : Nat) (stv : Value) (st : Option Int) (c : Sc) (w : World) : Prop where
 le : B ≤ b
 sc : ScW b mb stv c w
 sv : StV B b stv st c.cnt w
def ScP (B b mb : Nat) (stv : Value) (st : Option Int) (c' : Sc) (w : World) (en : Ending) (w' : World) : Prop := en = .returned (.tuple #[]) ∧ SWx B b mb stv st c' w' ∧ Below B w w'
section
variable {B b mb : Nat} {stv : Value} {st : Option Int} {c c' : Sc} {w w' : World} {am : List (ByteArray × Int)}
theorem below_le {B b : Nat} (h : Below b w w') (hb : B ≤ b) : Below B w w' := ⟨h.os, h.tape, h.output, h.size, fun k hk => h.block k (Nat.lt_of_lt_of_le hk hb)⟩
theorem SWx.fr0 (h : SWx B b mb stv st c w) (hf : Fr [] w w') : SWx B b mb stv st c w' := ⟨h.le, h.sc.fr0 hf, h.sv.belowb (hf.belowB (by simp) (Nat.le_of_lt h.sc.lt)) h.le⟩
theorem SWx.bel (h : SWx B b mb stv st c w) (hf : Fr [] w w') : Below B w w' := below_le (hf.belowB (by simp) (Nat.le_of_lt h.sc.lt)) h.le
theorem SWx.d (h : SWx B b mb stv st c w) (hc : c'.cnt = c.cnt) {en : Ending} (hd : ScD b mb stv c' w en w') : ScP B b mb stv st c' w en w' := ⟨hd.1, ⟨h.le, hd.2.1, by rw [hc]; exact h.sv.belowb hd.2.2 h.le⟩, below_le hd.2.2 h.le⟩
theorem SWx.declares (h : SWx B b mb stv st c w) (nm : ByteArray) : Calls Tryz.prog 173 #[.pointer (some ⟨b, 0, none⟩), .string nm] w (ScP B b mb stv st (c.declares nm) w) := (declares_any h.sc nm).mono fun _ _ hd => h.d (Sc.declares_cnt _ _) hd
theorem SWx.uses (h : SWx B b mb stv st c w) (nm : ByteArray) : Calls Tryz.prog 224 #[.pointer (some ⟨b, 0, none⟩), .string nm] w (ScP B b mb stv st (c.uses nm) w) := (uses_any h.sc nm).mono fun _ _ hd => h.d (Sc.uses_cnt _ _) hd
end
abbrev ArAt (w : World) (mb : Nat) (am : List (ByteArray × Int)) : Prop := MapAt w mb (fun s : ByteArray => Value.string s) (fun z : Int => Value.int .i64 z) am
def ScEOk (n : Nat) : Prop := ∀ (B b mb : Nat) (stv : Value) (st : Option Int) (c : Sc) (am : List (ByteArray × Int)) (A : Option Addr) (d : Nat) (l : List Nd) (w : World), LN (upB B) n w A d l → SWx B b mb stv st c w → ArAt w mb am → mb < B → c.cnt + cntL l ≤ 1000000000 →
 Calls Tryz.prog 223 #[.pointer (some ⟨b, 0, none⟩), .slice A l.length d] w (ScP B b mb stv st (scE (lkB am) st l c) w)
def ScLOk (n : Nat) : Prop := ∀ (B b mb : Nat) (stv : Value) (st : Option Int) (c : Sc) (am : List (ByteArray × Int)) (A : Option Addr) (d : Nat) (l : List Nd) (w : World), LN (upB B) n w A d l → SWx B b mb stv st c w → ArAt w mb am → mb < B → c.cnt + cntL l ≤ 1000000000 →
 Calls Tryz.prog 174 #[.pointer (some ⟨b, 0, none⟩), .slice A l.length d] w (ScP B b mb stv st (scL (lkB am) st l c) w)
def ScXOk (n : Nat) : Prop := ∀ (B b mb : Nat) (stv : Value) (st : Option Int) (c : Sc) (am : List (ByteArray × Int)) (k o : Nat) (x : Nd) (hd : HdN) (w : World), NdAt w k o x hd → NdH (upB B) n w hd x → k < B → SWx B b mb stv st c w → ArAt w mb am → mb < B → c.cnt + x.cnt ≤ 1000000000 →
 Calls Tryz.prog 238 #[.pointer (some ⟨b, 0, none⟩), .pointer (some ⟨k, o, none⟩)] w (ScP B b mb stv st (x.scX (lkB am) st c) w)
def ScSOk (n : Nat) : Prop := ∀ (B b mb : Nat) (stv : Value) (st : Option Int) (c : Sc) (am : List (ByteArray × Int)) (k o : Nat) (x : Nd) (hd : HdN) (w : World), NdAt w k o x hd → NdH (upB B) n w hd x → k < B → SWx B b mb stv st c w → ArAt w mb am → mb < B → c.cnt + x.cnt ≤ 1000000001 →
 Calls Tryz.prog 207 #[.pointer (some ⟨b, 0, none⟩), .pointer (some ⟨k, o, none⟩)] w (ScP B b mb stv st (x.scS (lkB am) st c) w)
set_option maxHeartbeats 1600000 in
theorem scE_step (n : Nat) (hX : ScXOk n) : ScEOk (n + 1) := by
  intro B b mb stv st c am A d l w h hS hm hmb hcnt
  have hl1 := h.len
  go_enter Tryz.func223, Tryz.ntmps223
  go_wp2
  go_loopw [7] (fun i wr => ∃ k : Nat, k ≤ l.length ∧ i = .int .i64 k ∧ ∃ c' : Sc, Hid (scE (lkB am) st (l.drop k) c' = scE (lkB am) st l c) ∧ SWx B b mb stv st c' wr ∧ Below B w wr ∧ c'.cnt + cntL (l.drop k) ≤ 1000000000) (fun i _ => l.length - (intOf i).toNat)
  case atStart => exact ⟨0, Nat.zero_le _, rfl, c, rfl, hS, Below.refl _ _, hcnt⟩
  case round =>
    obtain ⟨k, hk, rfl, c', HE, hS', hf, hc'⟩ := hrel
    by_cases hlt : k < l.length
    · obtain ⟨kb, off, x, hd, rfl, hx, hN, hH, hkb⟩ := h.at_ hlt
      have hkB : kb < B := Nat.lt_of_not_le hkb
      have hE2 : l.drop k = x :: l.drop (k + 1) := drop_at hx
      rw [hE2, scE] at HE
      rw [hE2, cntL] at hc'
      have HC := Lib.hid hc'
      clear hE2 hc'
      go_wp2_with fail
      refine (over_any hS'.sc).mono ?_
      rintro e w1 ⟨rfl, hf1⟩
      have hb1 := hS'.bel hf1
      have hS1 := hS'.fr0 hf1
      generalize c'.over = ov at *
      cases ov with
      | true =>
        rw [if_pos rfl] at HE
        go_wp2
        go_end0
        exact ⟨rfl, by rw [← HE.out]; exact hS1, hf.trans hb1⟩
      | false =>
        rw [if_neg (by simp)] at HE
        have hb2 := hf.trans hb1
        have hcx := scX_cnt (lkB am) st x c'
        go_wp2_with fail
        refine (hX B b mb stv st c' am kb _ x hd w1 (hN.below hb2 hkB) (hH.below hb2) hkB hS1 (hm.below hb2 hmb) hmb (by have := HC.out; omega)).mono ?_
        rintro e w2 ⟨rfl, hS2, hb3⟩
        go_wp2
        go_roundw
        case rel => exact ⟨k + 1, by omega, by go_num, _, HE, hS2, hb2.trans hb3, by have := HC.out; omega⟩
        case measure => simp [intOf]; omega
    · have hE2 : l.drop k = [] := List.drop_eq_nil_of_le (by omega)
      rw [hE2, scE] at HE
      go_wp2
      go_end0
      exact ⟨rfl, by rw [← HE.out]; exact hS', hf⟩
end

/- What a scope says of one expression. -/
section
open Go.RowKit
set_option linter.unusedSimpArgs false
section
variable {ar : ByteArray → Option Int} {st : Option Int} {x : Nd} {c : Sc}
theorem scX_fn (h : x.kind = 10) : x.scX ar st c = (if (scL ar st x.body (({ c with inFn := true, inner := [] } : Sc).decls x.params)).ended then scL ar st x.body (({ c with inFn := true, inner := [] } : Sc).decls x.params) else { (scL ar st x.body (({ c with inFn := true, inner := [] } : Sc).decls x.params)) with inFn := false, inner := [] }) := by
 cases x
 simp only [Nd.kind] at h
 rw [Nd.scX, if_pos h]
 rfl
theorem scX_none (h : x.kind = 5 ∨ x.kind = 13) (h1 : ar x.text = none) : x.scX ar st c = { c with fault := 5 } := by
 cases x
 simp only [Nd.kind, Nd.text] at h h1
 rw [Nd.scX, if_neg (by omega), if_pos h, h1]
theorem scX_many {z : Int} (h : x.kind = 5 ∨ x.kind = 13) (h1 : ar x.text = some z) (h2 : z ≠ x.subs.length) : x.scX ar st c = { c with fault := 1 } := by
 cases x
 simp only [Nd.kind, Nd.text, Nd.subs] at h h1 h2
 rw [Nd.scX, if_neg (by omega), if_pos h, h1]
 simp only
 rw [if_neg h2]
theorem scX_call {z : Int} (h : x.kind = 5 ∨ x.kind = 13) (h1 : ar x.text = some z) (h2 : z = x.subs.length) : x.scX ar st c = scE ar st x.subs c := by
 cases x
 simp only [Nd.kind, Nd.text, Nd.subs] at h h1 h2
 rw [Nd.scX, if_neg (by omega), if_pos h, h1]
 simp only [Nd.subs]
 rw [if_pos h2]
theorem scX_name (h : x.kind = 2) : x.scX ar st c = scE ar st x.subs (c.uses x.text) := by
 cases x
 simp only [Nd.kind] at h
 rw [Nd.scX, if_neg (by omega), if_neg (by omega), if_pos h]
 rfl
theorem scX_other (h : x.kind ≠ 2) (h5 : x.kind ≠ 5) (h13 : x.kind ≠ 13) (h10 : x.kind ≠ 10) : x.scX ar st c = scE ar st x.subs c := by
 cases x
 simp only [Nd.kind] at h h5 h13 h10
 rw [Nd.scX, if_neg h10, if_neg (by omega), if_neg h]
 rfl
end
section
variable {b mb : Nat} {stv : Value} {c : Sc} {w : World}
theorem ScW.shut (h : ScW b mb stv c w) (f : Bool) : ScW b mb stv { c with inFn := f, inner := [] } ((w.setCell ⟨b, 4, none⟩ (.bool f)).setCell ⟨b, 3, none⟩ (.slice none 0 0)) := by
 obtain ⟨A1, c1, A2, c2, A3, c3, hB, hR⟩ := h
 have hR2 := (hR.put 4 (.bool f)).put 3 (.slice none 0 0)
 exact ⟨A1, c1, A2, c2, none, 0, by simpa [scC] using (hB.set_ 4 (.bool f)).set_ 3 (.slice none 0 0), hR2.o1, hR2.o2, World.ownsRow_nil _ _ _ _, hR2.n12, Apt.none_ _, Apt.none_ _, hR2.l1, hR2.l2, Nat.zero_le _⟩
theorem ScW.cells (h : ScW b mb stv c w) : ∃ A3 c3, w.cell? ⟨b, 0, none⟩ = some (.map (some mb)) ∧ w.cell? ⟨b, 3, none⟩ = some (.slice A3 c.inner.length c3) ∧ w.cell? ⟨b, 4, none⟩ = some (.bool c.inFn) ∧ w.cell? ⟨b, 5, none⟩ = some (.int .i64 c.fault) ∧ w.cell? ⟨b, 6, none⟩ = some stv ∧
  w.cell? ⟨b, 7, none⟩ = some (.bool c.ended) ∧ w.frozen? ⟨b, 3, none⟩ = false ∧ w.frozen? ⟨b, 4, none⟩ = false ∧ w.frozen? ⟨b, 5, none⟩ = false ∧ w.frozen? ⟨b, 7, none⟩ = false := by
 obtain ⟨A1, c1, A2, c2, A3, c3, hB, hR⟩ := h
 exact ⟨A3, c3, hB.cell 0 rfl, hB.cell 3 rfl, hB.cell 4 rfl, hB.cell 5 rfl, hB.cell 6 rfl, hB.cell 7 rfl, hB.frozen 3, hB.frozen 4, hB.frozen 5, hB.frozen 7⟩
theorem ScW.faulty (h : ScW b mb stv c w) (z : Int) : ScW b mb stv { c with fault := z } (w.setCell ⟨b, 5, none⟩ (.int .i64 z)) := by
 obtain ⟨A1, c1, A2, c2, A3, c3, hB, hR⟩ := h
 exact ⟨A1, c1, A2, c2, A3, c3, by simpa [scC] using hB.set_ 5 (.int .i64 z), (hR.put 5 _).like rfl rfl rfl⟩
theorem ScW.ends (h : ScW b mb stv c w) (z : Bool) : ScW b mb stv { c with ended := z } (w.setCell ⟨b, 7, none⟩ (.bool z)) := by
 obtain ⟨A1, c1, A2, c2, A3, c3, hB, hR⟩ := h
 exact ⟨A1, c1, A2, c2, A3, c3, by simpa [scC] using hB.set_ 7 (.bool z), (hR.put 7 _).like rfl rfl rfl⟩
theorem set_below (hb : b < w.heap.size) (i : Nat) (u : Value) : Below b w (w.setCell ⟨b, i, none⟩ u) := (Below.refl b w).setCell (p := ⟨b, i, none⟩) (Nat.le_refl _) u
theorem set_belowD (hb : b < w.heap.size) (i : Nat) (u : Value) : Below b w (w.setCell ⟨b, i, none⟩ u).drew :=
 have h := set_below hb i u
 ⟨h.os, h.tape, h.output, h.size, h.block⟩
end
section
variable {B b mb : Nat} {stv : Value} {st : Option Int} {c c' : Sc} {w w' : World}
theorem SWx.move (h : SWx B b mb stv st c w) (hc : c'.cnt = c.cnt) (hs : ScW b mb stv c' w') (hb : Below b w w') : SWx B b mb stv st c' w' := ⟨h.le, hs, by rw [hc]; exact h.sv.belowb hb h.le⟩
end
set_option maxHeartbeats 3200000 in
set_option maxRecDepth 20000 in
theorem scX_step (n : Nat) (hE : ScEOk n) (hL : ScLOk n) : ScXOk n := by
  intro B b mb stv st c am k o x ⟨As, cs, Ap, cp, Ab, cb, Ae, ce⟩ w hN hH hkB hS hm hmb hcnt
  have hce := Nd.cnt_eq x
  have hlt := hS.sc.lt
  have c0 := hN.c0
  have c3 := hN.c3
  obtain ⟨r, hr⟩ : ∃ r, x.scX (lkB am) st c = r := ⟨_, rfl⟩
  rw [hr]
  have HR := Lib.hid hr
  clear hr
  have hle := hS.le
  by_cases h10 : x.kind = 10
  · have HK := Lib.hid h10
    have HX := Lib.hid ((scX_fn (ar := lkB am) (st := st) (c := c) h10).symm.trans HR.out)
    rw [h10] at c0
    obtain ⟨A3, d3, q0, q3, q4, q5, q6, q7, f3, f4, f5, f7⟩ := hS.sc.cells
    clear c3 h10
    go_enter Tryz.func238, Tryz.ntmps238
    go_upto_region 12 with fail
    refine wp_hide (fun M hM => ?_)
    have hbM : Below b w M := by rw [hM]; exact (set_below hlt 4 _).trans (set_below (by simpa using hlt) 3 _)
    have hSM : SWx B b mb stv st { c with inFn := true, inner := [] } M := hS.move rfl (by rw [hM]; exact hS.sc.shut true) hbM
    have hNM := hN.below (below_le hbM hle) hkB
    have hHM := hH.below (below_le hbM hle)
    have hmM := hm.below (below_le hbM hle) hmb
    have hbM := below_le hbM hle
    have c4 := hNM.c4
    have hpl := hHM.params.1.bound
    clear hM q0 q3 q4 q5 q6 q7 f3 f4 f5 f7 c0
    go_wp2
    go_loopw [63] (fun i wr => ∃ j : Nat, j ≤ x.params.length ∧ i = .int .i64 j ∧ ∃ c' : Sc, Hid (c'.decls (x.params.drop j) = ({ c with inFn := true, inner := [] } : Sc).decls x.params) ∧ SWx B b mb stv st c' wr ∧ Below B w wr ∧ c'.cnt = c.cnt) (fun i _ => x.params.length - (intOf i).toNat)
    case atStart => exact ⟨0, Nat.zero_le _, rfl, _, rfl, hSM, hbM, rfl⟩
    case round =>
      obtain ⟨j, hj, rfl, c', HE, hS', hf, hc'⟩ := hrel
      by_cases hlt2 : j < x.params.length
      · obtain ⟨b1, o1, nm, rfl, hx, hcell⟩ := (hH.params.below hf).1.at_ hlt2
        have hE2 : x.params.drop j = nm :: x.params.drop (j + 1) := drop_at hx
        rw [hE2] at HE
        have HE2 : Hid ((c'.declares nm).decls (x.params.drop (j + 1)) = ({ c with inFn := true, inner := [] } : Sc).decls x.params) := HE
        clear HE hE2
        go_wp2_with fail
        refine (hS'.declares nm).mono ?_
        rintro e w2 ⟨rfl, hS2, hb3⟩
        go_wp2
        go_roundw
        case rel => exact ⟨j + 1, by omega, by go_num, _, HE2, hS2, hf.trans hb3, by rw [Sc.declares_cnt]; exact hc'⟩
        case measure => simp [intOf]; omega
      · have hE2 : x.params.drop j = [] := List.drop_eq_nil_of_le (by omega)
        rw [hE2] at HE
        have HE2 : Hid (c' = ({ c with inFn := true, inner := [] } : Sc).decls x.params) := HE
        rw [← HE2.out] at HX
        clear HE HE2 hE2
        have c5 := (hN.below hf hkB).c5
        go_wp2_with fail
        refine (hL B b mb stv st c' am _ _ x.body _ (hH.body.below hf) hS' (hm.below hf hmb) hmb (by omega)).mono ?_
        rintro e w2 ⟨rfl, hS2, hb2⟩
        have hf2 := hf.trans hb2
        generalize scL (lkB am) st x.body c' = c2 at *
        obtain ⟨B3, d3, q0, q3, q4, q5, q6, q7, f3, f4, f5, f7⟩ := hS2.sc.cells
        obtain ⟨en, hen⟩ : ∃ z, c2.ended = z := ⟨_, rfl⟩
        rw [hen] at q7
        have HEN := Lib.hid hen
        clear hen
        have hlt2 := hS2.sc.lt
        cases en with
        | true =>
          rw [if_pos HEN.out] at HX
          go_wp2
          go_end0
          exact ⟨rfl, by rw [← HX.out]; exact hS2, hf2⟩
        | false =>
          rw [if_neg (by rw [HEN.out]; simp)] at HX
          go_wp2
          go_end0
          have hb3 := (set_below hlt2 4 (.bool false)).trans (set_below (w := w2.setCell ⟨b, 4, none⟩ (.bool false)) (by simpa using hlt2) 3 (.slice none 0 0))
          exact ⟨rfl, by rw [← HX.out]; exact hS2.move rfl (hS2.sc.shut false) hb3, hf2.trans (below_le hb3 hle)⟩
  have e10 : (x.kind == 10) = false := by simpa using h10
  by_cases h5 : x.kind = 5 ∨ x.kind = 13
  · have HK := Lib.hid h5
    obtain ⟨A3, d3, q0, q3, q4, q5, q6, q7, f3, f4, f5, f7⟩ := hS.sc.cells
    have c1 := hN.c1
    have HEX := Lib.hid (fun W hS' hf => hE B b mb stv st c am As cs x.subs W (hH.subs.below hf) hS' (hm.below hf hmb) hmb (by omega))
    have zr : ∀ W : World, (zeroValue 3).run Tryz.prog W = .ok (.int .i64 0) W := fun W => by rfl
    have hlook := fun W (h : ArAt W mb am) => run_lookup_at keySt Tryz.underlying155 (0 : Int) (zr W) h x.text
    have hl1 := hlook w.drew (hm.fr0 ((Fr.refl _ _).drew))
    obtain ⟨ro, hro⟩ : ∃ ro, lkB am x.text = ro := ⟨_, rfl⟩
    rw [show @List.lookup ByteArray Int instBEqOfDecidableEq x.text am = lkB am x.text from rfl, hro] at hl1
    have HL := Lib.hid hro
    clear hlook zr hro c3 h10 hm hE
    have e2 : (x.kind == 2) = false := by simp; omega
    go_enter Tryz.func238, Tryz.ntmps238
    rcases h5 with h5 | h5
    all_goals (
      rw [h5] at c0 e10 e2
      go_upto_region 5 with fail
      go_cut [4, 5] from 23 to 34 (fun p k wx => p = .int .i64 (ro.getD 0) ∧ k = .bool ro.isSome ∧ wx = w.drew)
      case first =>
        go_region
        all_goals (go_wp2_with fail; go_meet; exact ⟨rfl, rfl, rfl⟩)
      case rest =>
      obtain ⟨rfl, rfl, rfl⟩ := hcut
      clear hl1 c1 q0
      cases ro with
      | none =>
        have HX := Lib.hid ((scX_none (ar := lkB am) (st := st) (c := c) HK.out HL.out).symm.trans HR.out)
        go_wp2
        go_end0
        exact ⟨rfl, by rw [← HX.out]; exact hS.move rfl ((hS.sc.faulty 5).fr0 frx) (set_belowD hlt 5 _), below_le (set_belowD hlt 5 _) hle⟩
      | some z =>
        have hz : (some z).getD 0 = z := rfl
        rw [hz]
        clear hz
        by_cases hzl : z = (x.subs.length : Int)
        · have HX := Lib.hid ((scX_call (ar := lkB am) (st := st) (c := c) HK.out HL.out hzl).symm.trans HR.out)
          have ez : (z != (x.subs.length : Int)) = false := by simpa using hzl
          have c3 := hN.c3
          clear hzl
          go_wp2_with fail
          refine (HEX.out _ (hS.fr0 frx) (hS.bel frx)).mono ?_
          rintro e w3 ⟨rfl, hS3, hb3⟩
          go_wp2
          go_end0
          exact ⟨rfl, by rw [← HX.out]; exact hS3, (hS.bel (w' := w.drew) frx).trans hb3⟩
        · have HX := Lib.hid ((scX_many (ar := lkB am) (st := st) (c := c) HK.out HL.out hzl).symm.trans HR.out)
          have ez : (z != (x.subs.length : Int)) = true := by simpa using hzl
          have c3 := hN.c3
          clear hzl
          go_wp2
          go_end0
          exact ⟨rfl, by rw [← HX.out]; exact hS.move rfl ((hS.sc.faulty 1).fr0 frx) (set_belowD hlt 5 _), below_le (set_belowD hlt 5 _) hle⟩)
  · have e5 : (x.kind == 5) = false := by simp; omega
    have e13 : (x.kind == 13) = false := by simp; omega
    by_cases h2 : x.kind = 2
    · have HX := Lib.hid ((scX_name (ar := lkB am) (st := st) (c := c) h2).symm.trans HR.out)
      rw [h2] at c0
      have c1 := hN.c1
      clear e10 e5 e13 h10 h5 h2
      go_enter Tryz.func238, Tryz.ntmps238
      go_wp2_with fail
      refine (hS.uses x.text).mono ?_
      rintro e w2 ⟨rfl, hS2, hb2⟩
      have c3 := (hN.below hb2 hkB).c3
      go_wp2_with fail
      refine (hE B b mb stv st _ am As cs x.subs _ (hH.subs.below hb2) hS2 (hm.below hb2 hmb) hmb (by rw [Sc.uses_cnt]; omega)).mono ?_
      rintro e w3 ⟨rfl, hS3, hb3⟩
      go_wp2
      go_end0
      exact ⟨rfl, by rw [← HX.out]; exact hS3, hb2.trans hb3⟩
    · have e2 : (x.kind == 2) = false := by simpa using h2
      have HX := Lib.hid ((scX_other (ar := lkB am) (st := st) (c := c) h2 (fun h => h5 (.inl h)) (fun h => h5 (.inr h)) h10).symm.trans HR.out)
      clear h10 h5 h2
      go_enter Tryz.func238, Tryz.ntmps238
      go_wp2_with fail
      refine (hE B b mb stv st _ am As cs x.subs _ hH.subs hS hm hmb (by omega)).mono ?_
      rintro e w3 ⟨rfl, hS3, hb3⟩
      go_wp2
      go_end0
      exact ⟨rfl, by rw [← HX.out]; exact hS3, hb3⟩
end

end Go.Proofs.YtchldahkcpbgcaaGreatDoor
