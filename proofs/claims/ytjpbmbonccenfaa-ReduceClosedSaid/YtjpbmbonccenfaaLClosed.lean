/- ReduceClosed: the plain facts, the walk. -/
import Derived.Test.YtjpbmbonccenfaaWout
import Derived.Test.YtjpbmbonccenfaaRuns
namespace Go.Proofs.Ytjpbmbonccenfaa
open Go.RowKit
set_option linter.unusedVariables false

theorem MinusN_any (A B : Option Addr) (ca cb : Nat) (xs ys zs : List Int) (w : World) (ha : Rd w (.int .i64) A ca xs) (hb : Rd w (.int .i64) B cb ys) (hlen : xs.length ≤ 1000000) (hz : Hid (minus xs ys = zs)) :
    Calls Try.prog 25 #[.slice A xs.length ca, .slice B ys.length cb] w (RetN w 3 zs) :=
  (Minus_any A B ca cb xs ys w ha hb hlen).mono fun e w' h => by rw [hz.out] at h; exact h.n

theorem cl_closed {L : List (List Int)} {set : List Int} {bs : List Bool} (h : IsCl L set (inB bs)) : isClosedB L (pickedOf bs) = true :=
  isClosed_iff.2 fun x hx y hy => mem_picked.2 (h.step x (mem_picked.1 hx) y hy)
theorem cl_sub {L : List (List Int)} {set other : List Int} {bs cs : List Bool} (h : IsCl L set (inB bs)) (k : IsCl L other (inB cs)) (hs : minus set (pickedOf cs) = []) : minus (pickedOf bs) (pickedOf cs) = [] := by
  rw [minus_nil_iff] at *
  intro x hx
  exact mem_picked.2 (h.least _ (fun z hz => mem_picked.1 (hs z hz)) k.step x (mem_picked.1 hx))
theorem gn_closed {L : List (List Int)} {a : List Int} {i : Int} {gs : List Bool} (ha : isClosedB L a = true) (h : IsGn L a i (inB gs)) : isClosedB L (minus a (pickedOf gs)) = true := by
  rw [isClosed_iff] at *
  intro x hx y hy
  obtain ⟨h1, h2⟩ := mem_minus.1 hx
  exact mem_minus.2 ⟨ha x h1 y hy, fun hg => h2 (mem_picked.2 (h.step x h1 y hy (mem_picked.1 hg)))⟩
theorem gn_most {L : List (List Int)} {a z : List Int} {i : Int} {gs : List Bool} (h : IsGn L a i (inB gs)) (hz : isClosedB L z = true) (hs : minus z a = []) (hi : i ∉ z) : minus z (minus a (pickedOf gs)) = [] := by
  rw [isClosed_iff] at hz
  rw [minus_nil_iff] at *
  intro x hx
  refine mem_minus.2 ⟨hs x hx, fun hg => ?_⟩
  have := h.least (fun x => decide (x ∉ z)) (by simpa using hi) (fun u hu y hy hyz => by
    simp only [decide_eq_true_eq] at hyz ⊢
    exact fun hu2 => hyz (hz u hu2 y hy)) x (mem_picked.1 hg)
  simp at this
  exact this hx
theorem minus_sub (a b : List Int) : minus (minus a b) a = [] := minus_nil_iff.2 fun x hx => (mem_minus.1 hx).1
theorem gn_not {L : List (List Int)} {a : List Int} {i : Int} {gs : List Bool} (h : IsGn L a i (inB gs)) : i ∉ minus a (pickedOf gs) := fun hi => (mem_minus.1 hi).2 (mem_picked.2 h.base)

set_option maxRecDepth 100000 in
set_option maxHeartbeats 3200000 in
theorem LClosed_any (A B C : Option Addr) (c d f : Nat) (L : List (List Int)) (set other : List Int) (i : Int) (w : World) (ha : Rss w A c L) (hb : Rd w (.int .i64) B d set) (hc : Rd w (.int .i64) C f other) :
    Calls Try.prog 6 #[.slice A L.length c, .slice B set.length d, .slice C other.length f, .int .i64 i] w (RetV w (.bool true)) := by
  have hbd := ha.bound
  by_cases h20 : 20 < L.length
  · have d1 : decide (20 < L.length) = true := by simpa using h20
    have d1' : decide (20 < (L.length : Int)) = true := by simp; omega
    go_enter Try.func6, Try.ntmps6
    go_wp2_with fail
    refine (runs_any _).mono ?_
    rintro e w1 ⟨rfl, hf1⟩
    go_wp2
    go_ret
    exact ⟨rfl, hf1⟩
  · have hl20 : L.length ≤ 20 := by omega
    have d1 : decide (20 < L.length) = false := by simpa using h20
    have d1' : decide (20 < (L.length : Int)) = false := by simp; omega
    by_cases hcn : checkNeeds L = 0
    · have hcb : (checkNeeds L != 0) = false := by simp [hcn]
      have HCN := Lib.hid hcn
      obtain ⟨_, hlf⟩ := needs_facts hcn
      have HLF : Hid (∀ l ∈ L, InR L.length l ∧ l.length ≤ L.length) := fun l h => set_inR (hlf l h)
      clear hcn h20 hlf
      by_cases hs : isSet L.length set = true
      · obtain ⟨hs1, hs2⟩ := set_inR hs
        have HS := Lib.hid hs
        have HS1 := Lib.hid hs1
        clear hs1
        by_cases ho : isSet L.length other = true
        · have HO := Lib.hid ho
          go_enter Try.func6, Try.ntmps6
          go_wp2_with fail
          refine (refCheckNeeds_any A c L w ha).mono ?_
          rintro e w1 ⟨rfl, n1, rfl⟩
          go_wp2_with fail
          refine (Set_any B d set L.length _ (hb.drewN _)).mono ?_
          rintro e w2 ⟨rfl, n2, rfl⟩
          go_wp2_with fail
          refine (Set_any C f other L.length _ (hc.drewN _)).mono ?_
          rintro e w3 ⟨rfl, n3, rfl⟩
          go_wp2_with fail
          clear hs ho
          refine (Close_any A B c d L set _ (ha.drewN _) (hb.drewN _)).mono ?_
          rintro e w4 (⟨hx, _⟩ | ⟨_, hx, _⟩ | ⟨_, _, bs, hbs, hcl, A4, c4, rfl, hf4, hown4⟩)
          · exact absurd HCN.out hx
          · rw [HS.out] at hx; cases hx
          have hF4 : Fr [] w w4 := ((Fr.refl _ _).drewN _).trans hf4
          have r4 : Rd w4 (.int .i64) A4 c4 (pickedOf bs) := (Rd.of_own hown4).2
          have hps : isSet L.length (pickedOf bs) = true := by rw [← hbs]; exact picked_set bs
          have HPS := Lib.hid hps
          have hpr := set_inR hps
          have HPR := Lib.hid hpr.1
          have hpl := hpr.2
          have hpc := cl_closed hcl
          have HPC := Lib.hid hpc
          have HM1 : Hid (minus set (pickedOf bs) = []) := minus_nil_iff.2 fun x hx => mem_picked.2 (hcl.base x hx)
          have HCL := Lib.hid hcl
          clear hown4 hcl hps hpr hpc hf4
          simp only
          generalize hga : pickedOf bs = a at *
          have HGA := Lib.hid hga
          clear hga
          go_wp2_with fail
          refine (Set_any A4 c4 a L.length _ r4).mono ?_
          rw [HPS.out]
          rintro e w5 ⟨rfl, n5, rfl⟩
          go_wp2_with fail
          refine (refClosed_any A A4 c c4 L a _ ((ha.fr0 hF4).drewN _) (r4.drewN _) HPR.out (fun l h => by have := (HLF.out l h).2; omega)).mono ?_
          rw [HPC.out]
          rintro e w6 ⟨rfl, hf6⟩
          have hF6 := (hF4.drewN n5).trans hf6
          have r6 := (r4.drewN n5).fr0 hf6
          clear r4 hf6
          go_wp2_with fail
          refine (MinusN_any B A4 d c4 set a [] _ (hb.fr0 hF6) r6 (by omega) HM1).mono ?_
          rintro e w7 ⟨A7, c7, rfl, hf7, _⟩
          have hF7 := hF6.trans hf7
          have r7 := r6.fr0 hf7
          clear r6 hf7 hF6 hF4
          go_wp2_with fail
          refine (Close_any A C c f L other _ (ha.fr0 hF7) (hc.fr0 hF7)).mono ?_
          rintro e w8 (⟨hx, _⟩ | ⟨_, hx, _⟩ | ⟨_, _, cs, hcs, hcl2, A8, c8, rfl, hf8, hown8⟩)
          · exact absurd HCN.out hx
          · rw [HO.out] at hx; cases hx
          have hF8 := hF7.trans hf8
          have r8a := r7.fr0 hf8
          have r8 : Rd w8 (.int .i64) A8 c8 (pickedOf cs) := (Rd.of_own hown8).2
          have hws : isSet L.length (pickedOf cs) = true := by rw [← hcs]; exact picked_set cs
          have hwr := set_inR hws
          have hwl := hwr.2
          have HWC := Lib.hid (cl_closed hcl2)
          have HSUB : Hid (minus set (pickedOf cs) = [] → minus a (pickedOf cs) = []) := by
            rw [← HGA.out]; exact cl_sub HCL.out hcl2
          clear hown8 hcl2 hws hwr hf8 r7 hF7 hcs
          simp only
          generalize pickedOf cs = whole at *
          have hafter : ∀ (n : Nat) (w9 : World), w9 = w9 → True := fun _ _ _ => trivial
          clear hafter
          by_cases hm : minus set whole = []
          · have HM := Lib.hid hm
            have HM2 := Lib.hid (HSUB.out hm)
            clear hm HSUB
            go_wp2_with fail
            refine (MinusN_any B A8 d c8 set whole [] _ (hb.fr0 hF8) r8 (by omega) HM).mono ?_
            rintro e w9 ⟨A9, c9, rfl, hf9, _⟩
            have r9a := r8a.fr0 hf9
            have r9 := r8.fr0 hf9
            have hF9 := hF8.trans hf9
            clear r8a r8 hf9 hF8
            go_wp2_with fail
            refine (MinusN_any A4 A8 c4 c8 a whole [] _ r9a r9 (by omega) HM2).mono ?_
            rintro e w10 ⟨A10, c10, rfl, hf10, _⟩
            have r10a := r9a.fr0 hf10
            have r10 := r9.fr0 hf10
            have hF10 := hF9.trans hf10
            clear r9a r9 hf10 hF9
            go_wp2_with fail
            refine (Without_any A A4 c c4 L a i _ (ha.fr0 hF10) r10a).mono ?_
            rintro e w11 (⟨hx, _⟩ | ⟨_, hx, _⟩ | ⟨_, _, _, hni, A11, c11, rfl, hf11, _⟩ | ⟨_, _, _, hni, gs, hgs, hgn, A11, c11, rfl, hf11, hown11⟩)
            · exact absurd HCN.out hx
            · rcases hx with hx | hx
              · rw [HPS.out] at hx; cases hx
              · rw [HPC.out] at hx; cases hx
            · have hd : decide (i ∈ a) = false := by simpa using hni
              have hF11 := hF10.trans hf11
              have r11a := r10a.fr0 hf11
              clear hni r10a r10
              go_wp2_with fail
              refine (Has_any A4 c4 a i _ r11a).mono ?_
              rintro e w12 ⟨rfl, n12, rfl⟩
              go_wp2_with fail
              refine (runs_any _).mono ?_
              rintro e w13 ⟨rfl, hf13⟩
              go_wp2
              go_ret
              exact ⟨rfl, (hF11.drewN n12).trans hf13⟩
            · have hd : decide (i ∈ a) = true := by simpa using hni
              have hF11 := hF10.trans hf11
              have r11a := r10a.fr0 hf11
              have r11w := r10.fr0 hf11
              have r11 : Rd w11 (.int .i64) A11 c11 (minus a (pickedOf gs)) := (Rd.of_own hown11).2
              have hbS := minus_set (pickedOf gs) HPS.out
              have HBS := Lib.hid hbS
              have HBC := Lib.hid (gn_closed HPC.out hgn)
              have HBI := Lib.hid (gn_not hgn)
              have HBM : Hid (minus (minus a (pickedOf gs)) a = []) := minus_sub _ _
              have HMOST : Hid (minus whole a = [] → i ∉ whole → minus whole (minus a (pickedOf gs)) = []) := gn_most hgn HWC.out
              have hbr := set_inR hbS
              have HBR := Lib.hid hbr.1
              have hbl := hbr.2
              clear hni r10a r10 hown11 hgn hbS hbr hgs hf11
              simp only
              generalize minus a (pickedOf gs) = b at *
              go_wp2_with fail
              refine (Has_any A4 c4 a i _ r11a).mono ?_
              rintro e w12 ⟨rfl, n12, rfl⟩
              go_wp2_with fail
              refine (Set_any A11 c11 b L.length _ (r11.drewN _)).mono ?_
              rw [HBS.out]
              rintro e w13 ⟨rfl, n13, rfl⟩
              go_wp2_with fail
              refine (refClosed_any A A11 c c11 L b _ ((ha.fr0 hF11).drewN _) (r11.drewN _) HBR.out (fun l h => by have := (HLF.out l h).2; omega)).mono ?_
              rw [HBC.out]
              rintro e w14 ⟨rfl, hf14⟩
              have hF14 := (hF11.drewN _).trans hf14
              have r14 := (r11.drewN _).fr0 hf14
              have r14a := (r11a.drewN _).fr0 hf14
              have r14w := (r11w.drewN _).fr0 hf14
              clear r11 r11a r11w hF11 hf14
              go_wp2_with fail
              refine (MinusN_any A11 A4 c11 c4 b a [] _ r14 r14a (by omega) HBM).mono ?_
              rintro e w15 ⟨A15, c15, rfl, hf15, _⟩
              have hF15 := hF14.trans hf15
              have r15 := r14.fr0 hf15
              have r15a := r14a.fr0 hf15
              have r15w := r14w.fr0 hf15
              have hdb : decide (i ∈ b) = false := by simpa using HBI.out
              clear r14 r14a r14w hF14 hf15
              go_wp2_with fail
              refine (Has_any A11 c11 b i _ r15).mono ?_
              rintro e w16 ⟨rfl, n16, rfl⟩
              go_wp2_with fail
              obtain ⟨zw, hzw⟩ : ∃ zw, minus whole a = zw := ⟨_, rfl⟩
              have HZW := Lib.hid hzw
              clear hzw
              refine (MinusN_any A8 A4 c8 c4 whole a zw _ (r15w.drewN _) (r15a.drewN _) (by omega) HZW).mono ?_
              rintro e w17 ⟨A17, c17, rfl, hf17, _⟩
              have hF17 := (hF15.drewN _).trans hf17
              have r17 := (r15.drewN _).fr0 hf17
              have r17a := (r15a.drewN _).fr0 hf17
              have r17w := (r15w.drewN _).fr0 hf17
              clear r15 r15a r15w hF15 hf17
              rcases zw with _ | ⟨z, zs⟩
              · by_cases hiw : i ∈ whole
                · have hdw : decide (i ∈ whole) = true := by simpa using hiw
                  clear hiw
                  go_wp2_with fail
                  refine (Has_any A8 c8 whole i _ r17w).mono ?_
                  rintro e w18 ⟨rfl, n18, rfl⟩
                  go_wp2_with fail
                  refine (runs_any _).mono ?_
                  rintro e w19 ⟨rfl, hf19⟩
                  go_wp2
                  go_ret
                  exact ⟨rfl, (hF17.drewN _).trans hf19⟩
                · have hdw : decide (i ∈ whole) = false := by simpa using hiw
                  have HLAST : Hid (minus whole b = []) := HMOST.out HZW.out hiw
                  clear hiw
                  go_wp2_with fail
                  refine (Has_any A8 c8 whole i _ r17w).mono ?_
                  rintro e w18 ⟨rfl, n18, rfl⟩
                  go_wp2_with fail
                  refine (MinusN_any A8 A11 c8 c11 whole b [] _ (r17w.drewN _) (r17.drewN _) (by omega) HLAST).mono ?_
                  rintro e w20 ⟨A20, c20, rfl, hf20, _⟩
                  go_wp2_with fail
                  refine (runs_any _).mono ?_
                  rintro e w19 ⟨rfl, hf19⟩
                  go_wp2
                  go_ret
                  exact ⟨rfl, ((hF17.drewN _).trans hf20).trans hf19⟩
              · have hd3 : (((z :: zs).length : Int) == 0) = false := by simp; omega
                have hd4 : ((z :: zs).length == 0) = false := by simp
                generalize (z :: zs).length = m2 at *
                go_wp2_with fail
                refine (runs_any _).mono ?_
                rintro e w19 ⟨rfl, hf19⟩
                go_wp2
                go_ret
                exact ⟨rfl, hF17.trans hf19⟩
          · have hz : ∃ z zs, minus set whole = z :: zs := List.exists_cons_of_ne_nil hm
            obtain ⟨z, zs, hz⟩ := hz
            have HM := Lib.hid hz
            clear hm HSUB hz
            have hd0 : ((z :: zs).length == 0) = false := by simp
            go_wp2_with fail
            refine (MinusN_any B A8 d c8 set whole (z :: zs) _ (hb.fr0 hF8) r8 (by omega) HM).mono ?_
            rintro e w10 ⟨A10, c10, rfl, hf10, _⟩
            have r10a := r8a.fr0 hf10
            have r10 := r8.fr0 hf10
            have hF10 := hF8.trans hf10
            clear r8a r8 hf10 hF8
            have hd1 : (((z :: zs).length : Int) == 0) = false := by simp; omega
            generalize (z :: zs).length = m at *
            go_wp2_with fail
            refine (Without_any A A4 c c4 L a i _ (ha.fr0 hF10) r10a).mono ?_
            rintro e w11 (⟨hx, _⟩ | ⟨_, hx, _⟩ | ⟨_, _, _, hni, A11, c11, rfl, hf11, _⟩ | ⟨_, _, _, hni, gs, hgs, hgn, A11, c11, rfl, hf11, hown11⟩)
            · exact absurd HCN.out hx
            · rcases hx with hx | hx
              · rw [HPS.out] at hx; cases hx
              · rw [HPC.out] at hx; cases hx
            · have hd : decide (i ∈ a) = false := by simpa using hni
              have hF11 := hF10.trans hf11
              have r11a := r10a.fr0 hf11
              clear hni r10a r10
              go_wp2_with fail
              refine (Has_any A4 c4 a i _ r11a).mono ?_
              rintro e w12 ⟨rfl, n12, rfl⟩
              go_wp2_with fail
              refine (runs_any _).mono ?_
              rintro e w13 ⟨rfl, hf13⟩
              go_wp2
              go_ret
              exact ⟨rfl, (hF11.drewN n12).trans hf13⟩
            · have hd : decide (i ∈ a) = true := by simpa using hni
              have hF11 := hF10.trans hf11
              have r11a := r10a.fr0 hf11
              have r11w := r10.fr0 hf11
              have r11 : Rd w11 (.int .i64) A11 c11 (minus a (pickedOf gs)) := (Rd.of_own hown11).2
              have hbS := minus_set (pickedOf gs) HPS.out
              have HBS := Lib.hid hbS
              have HBC := Lib.hid (gn_closed HPC.out hgn)
              have HBI := Lib.hid (gn_not hgn)
              have HBM : Hid (minus (minus a (pickedOf gs)) a = []) := minus_sub _ _
              have HMOST : Hid (minus whole a = [] → i ∉ whole → minus whole (minus a (pickedOf gs)) = []) := gn_most hgn HWC.out
              have hbr := set_inR hbS
              have HBR := Lib.hid hbr.1
              have hbl := hbr.2
              clear hni r10a r10 hown11 hgn hbS hbr hgs hf11
              simp only
              generalize minus a (pickedOf gs) = b at *
              go_wp2_with fail
              refine (Has_any A4 c4 a i _ r11a).mono ?_
              rintro e w12 ⟨rfl, n12, rfl⟩
              go_wp2_with fail
              refine (Set_any A11 c11 b L.length _ (r11.drewN _)).mono ?_
              rw [HBS.out]
              rintro e w13 ⟨rfl, n13, rfl⟩
              go_wp2_with fail
              refine (refClosed_any A A11 c c11 L b _ ((ha.fr0 hF11).drewN _) (r11.drewN _) HBR.out (fun l h => by have := (HLF.out l h).2; omega)).mono ?_
              rw [HBC.out]
              rintro e w14 ⟨rfl, hf14⟩
              have hF14 := (hF11.drewN _).trans hf14
              have r14 := (r11.drewN _).fr0 hf14
              have r14a := (r11a.drewN _).fr0 hf14
              have r14w := (r11w.drewN _).fr0 hf14
              clear r11 r11a r11w hF11 hf14
              go_wp2_with fail
              refine (MinusN_any A11 A4 c11 c4 b a [] _ r14 r14a (by omega) HBM).mono ?_
              rintro e w15 ⟨A15, c15, rfl, hf15, _⟩
              have hF15 := hF14.trans hf15
              have r15 := r14.fr0 hf15
              have r15a := r14a.fr0 hf15
              have r15w := r14w.fr0 hf15
              have hdb : decide (i ∈ b) = false := by simpa using HBI.out
              clear r14 r14a r14w hF14 hf15
              go_wp2_with fail
              refine (Has_any A11 c11 b i _ r15).mono ?_
              rintro e w16 ⟨rfl, n16, rfl⟩
              go_wp2_with fail
              obtain ⟨zw, hzw⟩ : ∃ zw, minus whole a = zw := ⟨_, rfl⟩
              have HZW := Lib.hid hzw
              clear hzw
              refine (MinusN_any A8 A4 c8 c4 whole a zw _ (r15w.drewN _) (r15a.drewN _) (by omega) HZW).mono ?_
              rintro e w17 ⟨A17, c17, rfl, hf17, _⟩
              have hF17 := (hF15.drewN _).trans hf17
              have r17 := (r15.drewN _).fr0 hf17
              have r17a := (r15a.drewN _).fr0 hf17
              have r17w := (r15w.drewN _).fr0 hf17
              clear r15 r15a r15w hF15 hf17
              rcases zw with _ | ⟨z, zs⟩
              · by_cases hiw : i ∈ whole
                · have hdw : decide (i ∈ whole) = true := by simpa using hiw
                  clear hiw
                  go_wp2_with fail
                  refine (Has_any A8 c8 whole i _ r17w).mono ?_
                  rintro e w18 ⟨rfl, n18, rfl⟩
                  go_wp2_with fail
                  refine (runs_any _).mono ?_
                  rintro e w19 ⟨rfl, hf19⟩
                  go_wp2
                  go_ret
                  exact ⟨rfl, (hF17.drewN _).trans hf19⟩
                · have hdw : decide (i ∈ whole) = false := by simpa using hiw
                  have HLAST : Hid (minus whole b = []) := HMOST.out HZW.out hiw
                  clear hiw
                  go_wp2_with fail
                  refine (Has_any A8 c8 whole i _ r17w).mono ?_
                  rintro e w18 ⟨rfl, n18, rfl⟩
                  go_wp2_with fail
                  refine (MinusN_any A8 A11 c8 c11 whole b [] _ (r17w.drewN _) (r17.drewN _) (by omega) HLAST).mono ?_
                  rintro e w20 ⟨A20, c20, rfl, hf20, _⟩
                  go_wp2_with fail
                  refine (runs_any _).mono ?_
                  rintro e w19 ⟨rfl, hf19⟩
                  go_wp2
                  go_ret
                  exact ⟨rfl, ((hF17.drewN _).trans hf20).trans hf19⟩
              · have hd3 : (((z :: zs).length : Int) == 0) = false := by simp; omega
                have hd4 : ((z :: zs).length == 0) = false := by simp
                generalize (z :: zs).length = m2 at *
                go_wp2_with fail
                refine (runs_any _).mono ?_
                rintro e w19 ⟨rfl, hf19⟩
                go_wp2
                go_ret
                exact ⟨rfl, hF17.trans hf19⟩
        · have ho' : isSet L.length other = false := by simpa using ho
          clear ho
          go_enter Try.func6, Try.ntmps6
          go_wp2_with fail
          refine (refCheckNeeds_any A c L w ha).mono ?_
          rintro e w1 ⟨rfl, n1, rfl⟩
          go_wp2_with fail
          refine (Set_any B d set L.length _ (hb.drewN _)).mono ?_
          rintro e w2 ⟨rfl, n2, rfl⟩
          go_wp2_with fail
          refine (Set_any C f other L.length _ (hc.drewN _)).mono ?_
          rintro e w3 ⟨rfl, n3, rfl⟩
          go_wp2_with fail
          refine (runs_any _).mono ?_
          rintro e w4 ⟨rfl, hf4⟩
          go_wp2
          go_ret
          exact ⟨rfl, ((Fr.refl _ _).drewN _).trans hf4⟩
      · have hs' : isSet L.length set = false := by simpa using hs
        clear hs
        go_enter Try.func6, Try.ntmps6
        go_wp2_with fail
        refine (refCheckNeeds_any A c L w ha).mono ?_
        rintro e w1 ⟨rfl, n1, rfl⟩
        go_wp2_with fail
        refine (Set_any B d set L.length _ (hb.drewN _)).mono ?_
        rintro e w2 ⟨rfl, n2, rfl⟩
        go_wp2_with fail
        refine (runs_any _).mono ?_
        rintro e w4 ⟨rfl, hf4⟩
        go_wp2
        go_ret
        exact ⟨rfl, ((Fr.refl _ _).drewN _).trans hf4⟩
    · have hcb : (checkNeeds L != 0) = true := by simpa using hcn
      clear hcn
      go_enter Try.func6, Try.ntmps6
      go_wp2_with fail
      refine (refCheckNeeds_any A c L w ha).mono ?_
      rintro e w1 ⟨rfl, n1, rfl⟩
      go_wp2_with fail
      refine (runs_any _).mono ?_
      rintro e w4 ⟨rfl, hf4⟩
      go_wp2
      go_ret
      exact ⟨rfl, ((Fr.refl _ _).drewN _).trans hf4⟩
end Go.Proofs.Ytjpbmbonccenfaa
