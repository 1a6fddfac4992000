/- Texts of this seat, one behind the other: ScD, ScL, ScN. -/
import Derived.Test.YtchldahkcpbgcaaGreatDoorsb39
import Derived.Deep.RegionHeld
import Derived.Test.YtchldahkcpbgcaaGreatDoorsb40
namespace Go.Proofs.YtchldahkcpbgcaaGreatDoor
set_option linter.unusedVariables false

/- What a scope says of one statement, of statements. -/
section
open Go.RowKit
set_option linter.unusedSimpArgs false
section
variable {ar : ByteArray → Option Int} {st : Option Int} {x : Nd} {c : Sc}
theorem scS_over (h : (scE ar st x.subs c).over = true) : x.scS ar st c = scE ar st x.subs c := by
 cases x
 simp only [Nd.subs] at h
 rw [Nd.scS]
 simp only [Nd.subs]
 rw [if_pos h]
theorem scS_try (h : (scE ar st x.subs c).over = false) (hk : x.kind = 21) : x.scS ar st c = scL ar st x.els (if (scL ar st x.body (scE ar st x.subs c)).ended then scL ar st x.body (scE ar st x.subs c) else (scL ar st x.body (scE ar st x.subs c)).declares x.text) := by
 cases x
 simp only [Nd.subs, Nd.kind] at h hk
 rw [Nd.scS]
 simp only
 rw [if_neg (by simp [h]), if_pos hk]
 rfl
theorem scS_let (h : (scE ar st x.subs c).over = false) (hk : x.kind = 14) : x.scS ar st c = scL ar st x.els (scL ar st x.body ((scE ar st x.subs c).declares x.text)) := by
 cases x
 simp only [Nd.subs, Nd.kind] at h hk
 rw [Nd.scS]
 simp only
 rw [if_neg (by simp [h]), if_neg (by omega), if_pos hk]
 rfl
theorem scS_set (h : (scE ar st x.subs c).over = false) (hk : x.kind = 15) : x.scS ar st c = scL ar st x.els (scL ar st x.body ((scE ar st x.subs c).uses x.text)) := by
 cases x
 simp only [Nd.subs, Nd.kind] at h hk
 rw [Nd.scS]
 simp only
 rw [if_neg (by simp [h]), if_neg (by omega), if_neg (by omega), if_pos hk]
 rfl
theorem scS_other (h : (scE ar st x.subs c).over = false) (h1 : x.kind ≠ 14) (h2 : x.kind ≠ 15) (h3 : x.kind ≠ 21) : x.scS ar st c = scL ar st x.els (scL ar st x.body (scE ar st x.subs c)) := by
 cases x
 simp only [Nd.subs, Nd.kind] at h h1 h2 h3
 rw [Nd.scS]
 simp only
 rw [if_neg (by simp [h]), if_neg h3, if_neg h1, if_neg h2]
 rfl
end
set_option maxHeartbeats 3200000 in
set_option maxRecDepth 20000 in
theorem scS_step (n : Nat) (hE : ScEOk n) (hL : ScLOk n) : ScSOk n := by
  intro B b mb stv st c am k o x ⟨As, cs, Ap, cp, Ab, cb, Ae, ce⟩ w hN hH hkB hS hm hmb hcnt
  have hce := Nd.cnt_eq x
  have c3 := hN.c3
  obtain ⟨r, hr⟩ : ∃ r, x.scS (lkB am) st c = r := ⟨_, rfl⟩
  rw [hr]
  have HR := Lib.hid hr
  clear hr
  have hn1 := scE_cnt (lkB am) st x.subs c
  obtain ⟨ca, hca⟩ : ∃ z, scE (lkB am) st x.subs c = z := ⟨_, rfl⟩
  have HCA := Lib.hid hca
  have HEX := Lib.hid (fun W => hE B b mb stv st c am As cs x.subs W)
  rw [hca] at HEX hn1
  clear hca
  have HB : Hid (∀ (W : World) (c' : Sc), Below B w W → SWx B b mb stv st c' W → c'.cnt ≤ c.cnt + cntL x.subs → Calls Tryz.prog 174 #[.pointer (some ⟨b, 0, none⟩), .slice Ab x.body.length cb] W (ScP B b mb stv st (scL (lkB am) st x.body c') W)) :=
    Lib.hid fun W c' hf hS' hc => hL B b mb stv st c' am Ab cb x.body W (hH.body.below hf) hS' (hm.below hf hmb) hmb (by omega)
  have HL : Hid (∀ (W : World) (c' : Sc), Below B w W → SWx B b mb stv st c' W → c'.cnt ≤ c.cnt + cntL x.subs + cntL x.body → Calls Tryz.prog 174 #[.pointer (some ⟨b, 0, none⟩), .slice Ae x.els.length ce] W (ScP B b mb stv st (scL (lkB am) st x.els c') W)) :=
    Lib.hid fun W c' hf hS' hc => hL B b mb stv st c' am Ae ce x.els W (hH.els.below hf) hS' (hm.below hf hmb) hmb (by omega)
  go_enter Tryz.func207, Tryz.ntmps207
  go_wp2_with fail
  refine (HEX.out _ hH.subs hS hm hmb (by omega)).mono ?_
  rintro e w1 ⟨rfl, hS1, hb1⟩
  clear HEX hH hm hE hL c3
  go_wp2_with fail
  refine (over_any hS1.sc).mono ?_
  rintro e w2 ⟨rfl, hf2⟩
  have hb2 := hb1.trans (hS1.bel hf2)
  have hS2 := hS1.fr0 hf2
  clear hb1 hf2 hS1
  obtain ⟨ov, hov⟩ : ∃ z, ca.over = z := ⟨_, rfl⟩
  rw [hov]
  have HOV : Hid ((scE (lkB am) st x.subs c).over = ov) := Lib.hid (by rw [HCA.out]; exact hov)
  clear hov
  have hN2 := hN.below hb2 hkB
  have c0 := hN2.c0
  have c1 := hN2.c1
  have c5 := hN2.c5
  have c6 := hN2.c6
  dsimp only at c5 c6
  cases ov with
  | true =>
    have HX := Lib.hid ((scS_over HOV.out).symm.trans HR.out)
    rw [HCA.out] at HX
    clear c0 c1 c5 c6
    go_wp2
    go_end0
    exact ⟨rfl, by rw [← HX.out]; exact hS2, hb2⟩
  | false =>
    by_cases h21 : x.kind = 21
    · have HX := Lib.hid ((scS_try HOV.out h21).symm.trans HR.out)
      rw [HCA.out] at HX
      rw [h21] at c0
      clear h21
      go_wp2_with fail
      refine (HB.out _ ca hb2 hS2 hn1).mono ?_
      rintro e w3 ⟨rfl, hS3, hb3⟩
      have hn3 := scL_cnt (lkB am) st x.body ca
      generalize scL (lkB am) st x.body ca = cb2 at *
      obtain ⟨A3, d3, q0, q3, q4, q5, q6, q7, f3, f4, f5, f7⟩ := hS3.sc.cells
      obtain ⟨en, hen⟩ : ∃ z, cb2.ended = z := ⟨_, rfl⟩
      have HEN := Lib.hid hen
      rw [hen] at q7
      clear hen q0 q3 q4 q5 q6 f3 f4 f5 f7 c0 c1 c5 c6
      have hb3 := hb2.trans hb3
      have c1 := (hN.below hb3 hkB).c1
      have c6 := (hN.below hb3 hkB).c6
      dsimp only at c6
      cases en with
      | true =>
        rw [if_pos HEN.out] at HX
        go_wp2_with fail
        refine (HL.out _ _ hb3 hS3 (by omega)).mono ?_
        rintro e w4 ⟨rfl, hS4, hb4⟩
        go_wp2
        go_end0
        exact ⟨rfl, by rw [← HX.out]; exact hS4, hb3.trans hb4⟩
      | false =>
        rw [if_neg (by rw [HEN.out]; simp)] at HX
        go_wp2_with fail
        refine (hS3.declares x.text).mono ?_
        rintro e w4 ⟨rfl, hS4, hb4⟩
        have hb4 := hb3.trans hb4
        have c6 := (hN.below hb4 hkB).c6
        dsimp only at c6
        go_wp2_with fail
        refine (HL.out _ _ hb4 hS4 (by rw [Sc.declares_cnt]; omega)).mono ?_
        rintro e w5 ⟨rfl, hS5, hb5⟩
        go_wp2
        go_end0
        exact ⟨rfl, by rw [← HX.out]; exact hS5, hb4.trans hb5⟩
    · have e21 : (x.kind == 21) = false := by simpa using h21
      by_cases h14 : x.kind = 14
      · have HX := Lib.hid ((scS_let HOV.out h14).symm.trans HR.out)
        rw [HCA.out] at HX
        rw [h14] at c0
        clear h14 h21 e21
        go_wp2_with fail
        refine (hS2.declares x.text).mono ?_
        rintro e w3 ⟨rfl, hS3, hb3⟩
        have hb3 := hb2.trans hb3
        clear c0 c1 c5 c6
        have c5 := (hN.below hb3 hkB).c5
        dsimp only at c5
        go_wp2_with fail
        refine (HB.out _ _ hb3 hS3 (by rw [Sc.declares_cnt]; exact hn1)).mono ?_
        rintro e w4 ⟨rfl, hS4, hb4⟩
        have hb4 := hb3.trans hb4
        have c6 := (hN.below hb4 hkB).c6
        dsimp only at c6
        have hn3 := scL_cnt (lkB am) st x.body (ca.declares x.text)
        rw [Sc.declares_cnt] at hn3
        go_wp2_with fail
        refine (HL.out _ _ hb4 hS4 (by omega)).mono ?_
        rintro e w5 ⟨rfl, hS5, hb5⟩
        go_wp2
        go_end0
        exact ⟨rfl, by rw [← HX.out]; exact hS5, hb4.trans hb5⟩
      · have e14 : (x.kind == 14) = false := by simpa using h14
        by_cases h15 : x.kind = 15
        · have HX := Lib.hid ((scS_set HOV.out h15).symm.trans HR.out)
          rw [HCA.out] at HX
          rw [h15] at c0
          clear h14 h21 e21 e14 h15
          go_wp2_with fail
          refine (hS2.uses x.text).mono ?_
          rintro e w3 ⟨rfl, hS3, hb3⟩
          have hb3 := hb2.trans hb3
          clear c0 c1 c5 c6
          have c5 := (hN.below hb3 hkB).c5
          dsimp only at c5
          go_wp2_with fail
          refine (HB.out _ _ hb3 hS3 (by rw [Sc.uses_cnt]; exact hn1)).mono ?_
          rintro e w4 ⟨rfl, hS4, hb4⟩
          have hb4 := hb3.trans hb4
          have c6 := (hN.below hb4 hkB).c6
          dsimp only at c6
          have hn3 := scL_cnt (lkB am) st x.body (ca.uses x.text)
          rw [Sc.uses_cnt] at hn3
          go_wp2_with fail
          refine (HL.out _ _ hb4 hS4 (by omega)).mono ?_
          rintro e w5 ⟨rfl, hS5, hb5⟩
          go_wp2
          go_end0
          exact ⟨rfl, by rw [← HX.out]; exact hS5, hb4.trans hb5⟩
        · have e15 : (x.kind == 15) = false := by simpa using h15
          have HX := Lib.hid ((scS_other HOV.out h14 h15 h21).symm.trans HR.out)
          rw [HCA.out] at HX
          clear h14 h21 h15
          go_wp2_with fail
          refine (HB.out _ _ hb2 hS2 hn1).mono ?_
          rintro e w4 ⟨rfl, hS4, hb4⟩
          have hb4 := hb2.trans hb4
          clear c0 c1 c5 c6
          have c6 := (hN.below hb4 hkB).c6
          dsimp only at c6
          have hn3 := scL_cnt (lkB am) st x.body ca
          go_wp2_with fail
          refine (HL.out _ _ hb4 hS4 (by omega)).mono ?_
          rintro e w5 ⟨rfl, hS5, hb5⟩
          go_wp2
          go_end0
          exact ⟨rfl, by rw [← HX.out]; exact hS5, hb4.trans hb5⟩
end

/- What a scope says of statements; all of it by induction. -/
section
open Go.RowKit
set_option linter.unusedSimpArgs false
theorem run_equalIn_func_nil {P : Program} (w : World) (d : Nat) (t : TypeId) {ps rs : Array TypeId} {v : Bool} (h : P.underlying t = some (.func ps rs v)) (fn : Fn) (a c : Array Value) : (Op.equalIn (d + 1) t (.func fn a c) .nilFunc).run P w = .ok false w := by
 simp [Op.equalIn, run_underlying h]
theorem run_equalIn_nilFunc {P : Program} (w : World) (d : Nat) (t : TypeId) {ps rs : Array TypeId} {v : Bool} (h : P.underlying t = some (.func ps rs v)) : (Op.equalIn (d + 1) t .nilFunc .nilFunc).run P w = .ok true w := by
 simp [Op.equalIn, run_underlying h]
theorem run_neq_func_nil {P : Program} (w : World) (t : TypeId) {ps rs : Array TypeId} {v : Bool} (h : P.underlying t = some (.func ps rs v)) (fn : Fn) (a c : Array Value) : (binOp .neq t (.func fn a c) .nilFunc).run P w = .ok (.bool true) w := by
 have e : (Op.equal t (.func fn a c) .nilFunc).run P w = .ok false w := run_equalIn_func_nil w 9999 t h fn a c
 simp only [binOp]
 simp [e]
theorem run_neq_nilFunc {P : Program} (w : World) (t : TypeId) {ps rs : Array TypeId} {v : Bool} (h : P.underlying t = some (.func ps rs v)) : (binOp .neq t .nilFunc .nilFunc).run P w = .ok (.bool false) w := by
 have e : (Op.equal t .nilFunc .nilFunc).run P w = .ok true w := run_equalIn_nilFunc w 9999 t h
 simp only [binOp]
 simp [e]
theorem stop_any (g h cnt : Nat) (z : Int) (p : Value) (w : World) (hg : Blk w g 3 #[.int .i64 cnt]) (hz : w.cell? ⟨h, 0, none⟩ = some (.int .i64 z)) (hgh : g ≠ h) (hc : cnt ≤ 1000000000) :
  Calls Tryz.prog 130 #[p, .pointer (some ⟨g, 0, none⟩), .pointer (some ⟨h, 0, none⟩)] w (fun en w' => en = .returned (.bool (decide (z = cnt))) ∧ Blk w' g 3 #[.int .i64 (cnt + 1 : Nat)] ∧ Fr [g] w w') := by
 have q0 : w.cell? ⟨g, 0, none⟩ = some (.int .i64 cnt) := hg.cell 0 rfl
 have f0 := hg.frozen 0
 have hlt := hg.lt
 have HB := Lib.hid hg
 have e0 : ((cnt : Int) + 1 - 1) = cnt := by omega
 have ez : ((cnt : Int) == z) = decide (z = (cnt : Int)) := by rw [Bool.eq_iff_iff]; simp; exact ⟨Eq.symm, Eq.symm⟩
 have EZ := Lib.hid ez
 clear hg ez
 go_enter Tryz.func130, Tryz.ntmps130
 go_wp2
 go_ret
 refine ⟨ret_bool ?_, by simpa using HB.out.set_ 0 (.int .i64 (cnt + 1 : Nat)), (Fr.refl _ _).setCell (.inl (by simp)) _⟩
 exact EZ.out
section
variable {B b mb : Nat} {stv : Value} {st : Option Int} {c c' : Sc} {w w' : World} {ar : ByteArray → Option Int} {x : Nd} {l : List Nd}
theorem scL_over (h : c.over = true) : scL ar st (x :: l) c = c := by rw [scL, if_pos h]
theorem scL_stop (h : c.over = false) (h1 : st = some (c.cnt : Int)) : scL ar st (x :: l) c = { c with cnt := c.cnt + 1, ended := true } := by rw [scL, if_neg (by simp [h]), if_pos h1]
theorem scL_on (h : c.over = false) (h1 : st ≠ some (c.cnt : Int)) : scL ar st (x :: l) c = scL ar st l (x.scS ar st { c with cnt := c.cnt + 1 }) := by rw [scL, if_neg (by simp [h]), if_neg h1]
end
set_option maxHeartbeats 3200000 in
set_option maxRecDepth 20000 in
theorem scL_step (n : Nat) (hX : ScSOk n) : ScLOk (n + 1) := by
  intro B b mb stv st c am A d l w h hS hm hmb hcnt
  have hl1 := h.len
  go_enter Tryz.func174, Tryz.ntmps174
  go_wp2
  go_loopw [7] (fun i wr => ∃ k : Nat, k ≤ l.length ∧ i = .int .i64 k ∧ ∃ c' : Sc, Hid (scL (lkB am) st (l.drop k) c' = scL (lkB am) st l c) ∧ SWx B b mb stv st c' wr ∧ Below B w wr ∧ c'.cnt + cntL (l.drop k) ≤ 1000000000) (fun i _ => l.length - (intOf i).toNat)
  case atStart => exact ⟨0, Nat.zero_le _, rfl, c, rfl, hS, Below.refl _ _, hcnt⟩
  case round =>
    obtain ⟨k, hk, rfl, c', HE, hS', hf, hc'⟩ := hrel
    by_cases hlt : k < l.length
    · obtain ⟨kb, off, x, hd, rfl, hx, hN, hH, hkb⟩ := h.at_ hlt
      have hkB : kb < B := Nat.lt_of_not_le hkb
      have hE2 : l.drop k = x :: l.drop (k + 1) := drop_at hx
      have hc1 : 1 ≤ x.cnt := by rw [Nd.cnt_eq]; omega
      rw [hE2] at HE
      rw [hE2, cntL] at hc'
      have HC := Lib.hid hc'
      have HC1 := Lib.hid hc1
      clear hE2 hc' hc1
      go_wp2_with fail
      refine (over_any hS'.sc).mono ?_
      rintro e w1 ⟨rfl, hf1⟩
      have hb1 := hS'.bel hf1
      have hS1 := hS'.fr0 hf1
      obtain ⟨ov, hov⟩ : ∃ z, c'.over = z := ⟨_, rfl⟩
      rw [hov]
      have HOV := Lib.hid hov
      clear hov hS'
      have hb2 := hf.trans hb1
      clear hf hf1 hb1
      cases ov with
      | true =>
        rw [scL_over HOV.out] at HE
        go_wp2
        go_end0
        exact ⟨rfl, by rw [← HE.out]; exact hS1, hb2⟩
      | false =>
        have HQ : Hid (∀ (c2 : Sc) (V : World), Below B w V → SWx B b mb stv st c2 V → c2.cnt = c'.cnt + 1 → Calls Tryz.prog 207 #[.pointer (some ⟨b, 0, none⟩), .pointer (some ⟨kb, off + k * 7, none⟩)] V (ScP B b mb stv st (x.scS (lkB am) st c2) V)) :=
          Lib.hid fun c2 V hf hSV hcc => hX B b mb stv st c2 am kb _ x hd V (hN.below hf hkB) (hH.below hf) hkB hSV (hm.below hf hmb) hmb (by have := HC.out; omega)
        have hcn : c'.cnt ≤ 1000000000 := by have := HC.out; omega
        have hRL : Hid (∀ (V : World), Below B w V → ∀ c2 : Sc, SWx B b mb stv st c2 V → c2.cnt ≤ c'.cnt + x.cnt → c2.cnt + cntL (l.drop (k + 1)) ≤ 1000000000) := Lib.hid fun V _ c2 _ h => by have := HC.out; omega
        clear hN hH hX hm HC HC1 hkb
        obtain ⟨A3, d3, q0, q3, q4, q5, q6, q7, f3, f4, f5, f7⟩ := hS1.sc.cells
        have HSV := Lib.hid hS1.sv
        have hle := hS1.le
        have hltb := hS1.sc.lt
        clear q0 q3 q4 q5 f3 f4 f5
        have hss := scS_cnt (lkB am) st x { c' with cnt := c'.cnt + 1 }
        dsimp only at hss
        have HSS := Lib.hid hss
        clear hss
        rcases HSV.out with ⟨rfl, rfl⟩ | ⟨z, g, hh, rfl, rfl, h3, h4, h5, h6, h7⟩
        · rw [scL_on HOV.out (by simp)] at HE
          have hSn : SWx B b mb .nilFunc none { c' with cnt := c'.cnt + 1 } w1 := ⟨hle, by obtain ⟨A1, c1, A2, c2, A3, c3, e1, e2⟩ := hS1.sc; exact ⟨A1, c1, A2, c2, A3, c3, e1, e2.like rfl rfl rfl⟩, .inl ⟨rfl, rfl⟩⟩
          clear HSV hS1
          have en : ∀ W : World, (binOp .neq 159 .nilFunc .nilFunc).run Tryz.prog W = .ok (.bool false) W := fun W => run_neq_nilFunc W _ Tryz.underlying159
          go_upto_region 4 with fail
          go_quiet (fail)
          go_wp2_with fail
          refine (HQ.out _ _ (hb2.trans (hSn.bel frx)) (hSn.fr0 frx) rfl).mono ?_
          rintro e w3 ⟨rfl, hS3, hb3⟩
          have hb3 := (hb2.trans (hSn.bel (frx : Fr [] w1 (w1.drewN _)))).trans hb3
          go_wp2
          go_roundw
          case rel => exact ⟨k + 1, by omega, by go_num, _, HE, hS3, hb3, hRL.out _ hb3 _ hS3 (by have := HSS.out; omega)⟩
          case measure => simp [intOf]; omega
        · have en : ∀ W : World, (binOp .neq 159 (.func (.func 130) #[] #[.pointer (some ⟨g, 0, none⟩), .pointer (some ⟨hh, 0, none⟩)]) .nilFunc).run Tryz.prog W = .ok (.bool true) W := fun W => run_neq_func_nil W _ Tryz.underlying159 _ _ _
          have HST : Hid (∀ W, Fr [] w1 W → Calls Tryz.prog 130 #[.pointer (some ⟨kb, off + k * 7, none⟩), .pointer (some ⟨g, 0, none⟩), .pointer (some ⟨hh, 0, none⟩)] W (fun en w' => en = .returned (.bool (decide (z = c'.cnt))) ∧ Blk w' g 3 #[.int .i64 (c'.cnt + 1 : Nat)] ∧ Fr [g] W w')) :=
            Lib.hid fun W hW => stop_any g hh c'.cnt z _ W (h5.fr hW (by simp)) (hW.cell h7 (by simp)) (by omega) hcn
          clear HSV
          obtain ⟨dz, hdz⟩ : ∃ d, decide (z = (c'.cnt : Int)) = d := ⟨_, rfl⟩
          rw [hdz] at HST
          have HDZ := Lib.hid hdz
          clear hdz
          go_upto_region 4 with fail
          go_region_held3 (fun w' => w'.cell? ⟨b, 6, none⟩ = some (.func (.func 130) #[] #[.pointer (some ⟨g, 0, none⟩), .pointer (some ⟨hh, 0, none⟩)]))
            (first
              | (go_keep; done)
              | with_reducible exact hFb.cell q6 (by simp; omega))
            (first
              | (go_at_call 130; refine (HST.out _ frx).mono ?_; rintro e w3 ⟨rfl, hG3, hf3⟩; have hFb : Fr [g] w1 w3 := (Fr.trans frx hf3)))
          have hbw : Below B w1 w3 := hFb.belowB (by simp; exact h3) (by omega)
          have hgb : Below g w1 w3 := hFb.belowB (by simp) (by omega)
          have hS3 : SWx B b mb (.func (.func 130) #[] #[.pointer (some ⟨g, 0, none⟩), .pointer (some ⟨hh, 0, none⟩)]) (some z) { c' with cnt := c'.cnt + 1 } w3 :=
            ⟨hle, by obtain ⟨A1, c1, A2, c2, A3, c3, e1, e2⟩ := hS1.sc.fr hFb (by simp; exact h4); exact ⟨A1, c1, A2, c2, A3, c3, e1, e2.like rfl rfl rfl⟩, .inr ⟨z, g, hh, rfl, rfl, h3, h4, hG3, h6, hFb.cell h7 (by simp; omega)⟩⟩
          have hb3 := hb2.trans hbw
          have hlt3 := hS3.sc.lt
          obtain ⟨E3, d3, q0, q3, q4, q5, q6, q7, f3, f4, f5, f7⟩ := hS3.sc.cells
          clear hG3 hFb q0 q3 q4 q5 q6 f3 f4 f5 hS1 en HST h5 h7
          cases dz with
          | true =>
            have hz := of_decide_eq_true HDZ.out
            rw [scL_stop HOV.out (by rw [hz])] at HE
            clear hz
            go_wp2
            go_end0
            have hE3 := hS3.move (c' := { c' with cnt := c'.cnt + 1, ended := true }) rfl (hS3.sc.ends true) (set_below hlt3 7 _)
            exact ⟨rfl, by rw [← HE.out]; exact hE3.fr0 frx, hb3.trans (below_le (set_below hlt3 7 _) hle)⟩
          | false =>
            have hz := of_decide_eq_false HDZ.out
            rw [scL_on HOV.out (by simpa using hz)] at HE
            clear hz q7 f7
            go_wp2_with fail
            refine (HQ.out _ _ hb3 hS3 rfl).mono ?_
            rintro e w5 ⟨rfl, hS5, hb5⟩
            have hb5 := hb3.trans hb5
            go_wp2
            go_roundw
            case rel => exact ⟨k + 1, by omega, by go_num, _, HE, hS5, hb5, hRL.out _ hb5 _ hS5 (by have := HSS.out; omega)⟩
            case measure => simp [intOf]; omega
    · have hE2 : l.drop k = [] := List.drop_eq_nil_of_le (by omega)
      rw [hE2, scL] at HE
      go_wp2
      go_end0
      exact ⟨rfl, by rw [← HE.out]; exact hS', hf⟩
end

/- arities: how many parameters each function has. -/
section
open Go.RowKit
set_option linter.unusedSimpArgs false
theorem sc_all : ∀ n, ScEOk n ∧ ScLOk n
 | 0 => ⟨fun _ _ _ _ _ _ _ _ _ _ _ h => absurd h id, fun _ _ _ _ _ _ _ _ _ _ _ h => absurd h id⟩
 | n + 1 => ⟨scE_step n (scX_step n (sc_all n).1 (sc_all n).2), scL_step n (scS_step n (sc_all n).1 (sc_all n).2)⟩
def RetAr (w : World) (fs : List Fu) (en : Ending) (w' : World) : Prop :=
 Fr [] w w' ∧ if twiceB [] fs then en = .returned (.tuple #[.map none, .bool false]) else ∃ mb, en = .returned (.tuple #[.map (some mb), .bool true]) ∧ w.heap.size ≤ mb ∧ ArAt w' mb (arL fs)
theorem RetAr.two {w w' : World} {fs : List Fu} {en : Ending} (h : twiceB [] fs = true) (hf : Fr [] w w') (he : en = .returned (.tuple #[.map none, .bool false])) : RetAr w fs en w' := ⟨hf, by rw [if_pos h]; exact he⟩
theorem RetAr.one {w w' : World} {fs : List Fu} {en : Ending} {mb : Nat} (h : twiceB [] fs = false) (hf : Fr [] w w') (he : en = .returned (.tuple #[.map (some mb), .bool true])) (hm : w.heap.size ≤ mb) (ha : ArAt w' mb (arL fs)) : RetAr w fs en w' := ⟨hf, by rw [if_neg (by simp [h])]; exact ⟨mb, he, hm, ha⟩⟩
theorem arL_take {fs : List Fu} {k : Nat} {f : Fu} (h : Hid (fs[k]? = some f)) : arL (fs.take (k + 1)) = arL (fs.take k) ++ [(f.name, (f.params.length : Int))] := by
 rw [take_at h]
 simp [arL]
set_option maxHeartbeats 3200000 in
set_option maxRecDepth 20000 in
theorem arities_any {S : Nat → Prop} {n : Nat} {A : Option Addr} {c : Nat} {fs : List Fu} {w : World} (pb : Nat) (hR : RF S n w A c fs) (hp : w.cell? ⟨pb, 0, none⟩ = some (.slice A fs.length c)) :
    Calls Tryz.prog 117 #[.pointer (some ⟨pb, 0, none⟩)] w (RetAr w fs) := by
  have hl1 := hR.bound
  have hpb := Lib.lt_of_cell hp
  obtain ⟨V, hV⟩ : ∃ V, V = w.alloc (.map #[] 0) := ⟨_, rfl⟩
  have hfV : Fr [] w V := by rw [hV]; exact frx
  have hm0 : ArAt V w.heap.size [] := by rw [hV]; exact MapAt.new _ _ _ _ rfl
  have hmm := @run_makeMap Tryz.prog
  have HV := Lib.hid hV.symm
  clear hV
  have hq0 := hfV.cell hp (by simp)
  go_enter Tryz.func117, Tryz.ntmps117
  go_upto_region 2 with fail
  rw [HV.out]
  go_wp2
  go_loopw [14] (fun i wr => ∃ k : Nat, k ≤ fs.length ∧ i = .int .i64 k ∧ Hid (twiceB ((fs.take k).map Fu.name) (fs.drop k) = twiceB [] fs) ∧ ArAt wr w.heap.size (arL (fs.take k)) ∧ Fr [] w wr) (fun i _ => fs.length - (intOf i).toNat)
  case atStart => exact ⟨0, Nat.zero_le _, rfl, rfl, hm0, hfV⟩
  case round =>
    obtain ⟨k, hk, rfl, HE, hm, hf⟩ := hrel
    have hsz := hf.size
    by_cases hlt : k < fs.length
    · obtain ⟨b, off, f, Ap, cp, Ab, cb, rfl, hx, n0, n1, n2, _, _, _⟩ := hR.at_ hlt
      have hbl := Lib.lt_of_cell n0
      dsimp only at hbl
      have hd : fs.drop k = f :: fs.drop (k + 1) := drop_at hx
      rw [hd, twiceB] at HE
      clear hd
      have q0 := hf.cell hp (by simp)
      have n0 := hf.cell n0 (by simp)
      have n1 := hf.cell n1 (by simp)
      obtain ⟨V, rfl⟩ : ∃ V, V = wr := ⟨wr, rfl⟩
      have zr : ∀ W : World, (zeroValue 3).run Tryz.prog W = .ok (.int .i64 0) W := fun W => by rfl
      have hl := run_lookup_at keySt Tryz.underlying155 (0 : Int) (zr V) hm f.name
      have hin := lkB_in (fs.take k) f.name
      obtain ⟨ro, hro⟩ : ∃ ro, lkB (arL (fs.take k)) f.name = ro := ⟨_, rfl⟩
      rw [show @List.lookup ByteArray Int instBEqOfDecidableEq f.name (arL (fs.take k)) = lkB (arL (fs.take k)) f.name from rfl, hro] at hl
      rw [hro] at hin
      have HIN := Lib.hid hin
      have HRO := Lib.hid hro
      clear hin hro zr
      cases ro with
      | some z =>
        rw [← HIN.out] at HE
        have HE2 : Hid (twiceB [] fs = true) := Lib.hid (by rw [← HE.out]; rfl)
        clear HE HIN HRO
        go_wp2
        go_ret2
        exact RetAr.two HE2.out hf rfl
      | none =>
        rw [← HIN.out] at HE
        have HE2 : Hid (twiceB ((fs.take (k + 1)).map Fu.name) (fs.drop (k + 1)) = twiceB [] fs) := Lib.hid (by
          rw [← HE.out, take_at hx]
          simp)
        obtain ⟨wM, rM, hm2, fM⟩ := run_store_new keySt Tryz.underlying155 (hm.fr0 ((Fr.refl _ _).drew)) f.name ((f.params.length : Int)) HRO.out
        have fM2 : Fr [w.heap.size] V wM := ((Fr.refl _ V).drew).trans fM
        have rM : (Instr.mapUpdate 155 (.map (some w.heap.size)) (.string f.name) (.int .i64 f.params.length)).run Tryz.prog V.drew = .ok () wM := rM
        rw [← arL_take hx] at hm2
        clear HE HIN HRO fM
        go_upto_region 8 with fail
        refine wp_region_held_drew (S := fun w' => Fr [w.heap.size] V w') (by kernel_rfl) ((Fr.refl _ _).drew) (fun hHeld => ?_)
        refine tkH (i := 0) (v := ?_) (y := fun w hSw => ?_) (h := ?_)
        rotate_left 1
        · (try dsimp only at hSw)
          go_simp
          try with_reducible rfl
        try simp only [Act.put, lA, lZ, lS]
        refine tkH (i := 1) (v := ?_) (y := fun w hSw => ?_) (h := ?_)
        rotate_left 1
        · (try dsimp only at hSw)
          go_simp
          try with_reducible rfl
        try simp only [Act.put, lA, lZ, lS]
        refine tkH (i := 2) (v := ?_) (y := fun w hSw => ?_) (h := ?_)
        rotate_left 1
        · (try dsimp only at hSw)
          go_simp
          try with_reducible rfl
        try simp only [Act.put, lA, lZ, lS]
        refine tkH (i := 3) (v := ?_) (y := fun w hSw => ?_) (h := ?_)
        rotate_left 1
        · (try dsimp only at hSw)
          go_simp
          try with_reducible rfl
        try simp only [Act.put, lA, lZ, lS]
        refine tkH (i := 4) (v := ?_) (y := fun w hSw => ?_) (h := ?_)
        rotate_left 1
        · (try dsimp only at hSw)
          have k0 := hSw.cell q0 (by simp; omega)
          go_simp
          try with_reducible rfl
        try simp only [Act.put, lA, lZ, lS]
        refine tkH (i := 5) (v := ?_) (y := fun w hSw => ?_) (h := ?_)
        rotate_left 1
        · (try dsimp only at hSw)
          go_simp
          try with_reducible rfl
        try simp only [Act.put, lA, lZ, lS]
        refine tkH (i := 6) (v := ?_) (y := fun w hSw => ?_) (h := ?_)
        rotate_left 1
        · (try dsimp only at hSw)
          go_simp
          try with_reducible rfl
        try simp only [Act.put, lA, lZ, lS]
        refine tkH (i := 7) (v := ?_) (y := fun w hSw => ?_) (h := ?_)
        rotate_left 1
        · (try dsimp only at hSw)
          go_simp
          try with_reducible rfl
        try simp only [Act.put, lA, lZ, lS]
        refine tkH (i := 8) (v := ?_) (y := fun w hSw => ?_) (h := ?_)
        rotate_left 1
        · (try dsimp only at hSw)
          have k1 := hSw.cell n0 (by simp; omega)
          go_simp
          try with_reducible rfl
        try simp only [Act.put, lA, lZ, lS]
        refine tkH (i := 9) (v := ?_) (y := fun w hSw => ?_) (h := ?_)
        rotate_left 1
        · (try dsimp only at hSw)
          go_simp
          try with_reducible rfl
        try simp only [Act.put, lA, lZ, lS]
        refine tkH (i := 10) (v := ?_) (y := fun w hSw => ?_) (h := ?_)
        rotate_left 1
        · (try dsimp only at hSw)
          go_simp
          try with_reducible rfl
        try simp only [Act.put, lA, lZ, lS]
        refine tkH (i := 11) (v := ?_) (y := fun w hSw => ?_) (h := ?_)
        rotate_left 1
        · (try dsimp only at hSw)
          go_simp
          try with_reducible rfl
        try simp only [Act.put, lA, lZ, lS]
        refine tkH (i := 12) (v := ?_) (y := fun w hSw => ?_) (h := ?_)
        rotate_left 1
        · (try dsimp only at hSw)
          have k0 := hSw.cell q0 (by simp; omega)
          go_simp
          try with_reducible rfl
        try simp only [Act.put, lA, lZ, lS]
        refine tkH (i := 13) (v := ?_) (y := fun w hSw => ?_) (h := ?_)
        rotate_left 1
        · (try dsimp only at hSw)
          go_simp
          try with_reducible rfl
        try simp only [Act.put, lA, lZ, lS]
        refine tkH (i := 14) (v := ?_) (y := fun w hSw => ?_) (h := ?_)
        rotate_left 1
        · (try dsimp only at hSw)
          go_simp
          try with_reducible rfl
        try simp only [Act.put, lA, lZ, lS]
        refine tkH (i := 15) (v := ?_) (y := fun w hSw => ?_) (h := ?_)
        rotate_left 1
        · (try dsimp only at hSw)
          go_simp
          try with_reducible rfl
        try simp only [Act.put, lA, lZ, lS]
        refine tkH (i := 16) (v := ?_) (y := fun w hSw => ?_) (h := ?_)
        rotate_left 1
        · (try dsimp only at hSw)
          have k1 := hSw.cell n1 (by simp; omega)
          go_simp
          try with_reducible rfl
        try simp only [Act.put, lA, lZ, lS]
        refine tkH (i := 17) (v := ?_) (y := fun w hSw => ?_) (h := ?_)
        rotate_left 1
        · (try dsimp only at hSw)
          go_simp
          try with_reducible rfl
        try simp only [Act.put, lA, lZ, lS]
        refine wpAnyH_ready (rs := [18]) (by kernel_rfl) (by simp) ?_; refine AllReadyH.cons rfl (fun K hK => ?_) AllReadyH.nil; go_simp
        refine hK.out _ _ (fM2) (fun hHeld2 => ?_); clear hK K hHeld; have hHeld := hHeld2; clear hHeld2; try simp only [Act.put, lA, lZ, lS]
        refine wpAnyH_done (by kernel_rfl) ?_ _
        go_wp2
        go_roundw
        case rel => exact ⟨k + 1, by omega, by go_num, HE2, hm2, hf.trans2 fM2 (fun x hx => .inr (by simp at hx; omega))⟩
        case measure => simp [intOf]; omega
    · have hd : fs.drop k = [] := List.drop_eq_nil_of_le (by omega)
      rw [hd, twiceB] at HE
      rw [List.take_of_length_le (by omega)] at hm
      have HE2 : Hid (twiceB [] fs = false) := Lib.hid HE.out.symm
      go_wp2
      go_ret2
      exact RetAr.one HE2.out hf rfl (Nat.le_refl _) hm
end

end Go.Proofs.YtchldahkcpbgcaaGreatDoor
