/- Texts of this seat, one behind the other: ISch, ISch2. -/
import Derived.Test.YtjpbmbonccenfaaDoort227
import Derived.Test.YtjpbmbonccenfaaDoort221
import Derived.Test.YtjpbmbonccenfaaDoort217
import Derived.Test.YtjpbmbonccenfaaDoort229
/- Schedule of the program: the function that run is handed. -/
namespace Go.Proofs.YtjpbmbonccenfaaDoor
open Go.RowKit
set_option linter.unusedVariables false

/-- The variable of the schedule. -/
def CandP (W : World) (bc : Nat) (R : Nat → Prop) (l : List Pk) : Prop :=
  ∃ A c, Blk W bc 47 #[.slice A l.length c] ∧ Rp W A c l ∧ (0 < l.length → ∀ a, A = some a → R a.block)
theorem CandP.fr {S : List Nat} {W W' : World} {bc : Nat} {R : Nat → Prop} {l : List Pk} (h : CandP W bc R l) (hf : Fr S W W') (hb : bc ∉ S) (hS : ∀ x ∈ S, ¬ R x) : CandP W' bc R l := by
  obtain ⟨A, c, h1, h2, h3⟩ := h
  exact ⟨A, c, h1.fr hf hb, h2.fr hf (fun h0 a ha hm => hS _ hm (h3 h0 a ha)), h3⟩
theorem CandP.fr0 {W W' : World} {bc : Nat} {R : Nat → Prop} {l : List Pk} (h : CandP W bc R l) (hf : Fr [] W W') : CandP W' bc R l := h.fr hf (by simp) (by simp)
theorem candP_new {W : World} {bc B c : Nat} {x : Value} {A : Option Addr} {l : List Pk} {R : Nat → Prop} (hb : Blk W bc 47 #[x]) (ho : W.ownsRow B 115 2 (.slice A l.length c) l.length (flat l)) (hR : ∀ b, B ≤ b → b < W.heap.size → R b) (hne : bc < B) :
    CandP (W.setCell ⟨bc, 0, none⟩ (.slice A l.length c)) bc R l := by
  obtain ⟨_, hr⟩ := Rp.of_own ho
  refine ⟨A, c, hb.set_ 0 _, hr.setCell (fun h0 a ha => ?_) _, fun h0 a ha => ?_⟩
  · subst ha
    have := (ho.lt _ rfl).1
    show a.block ≠ bc
    omega
  · subst ha
    have := ho.lt _ rfl
    exact hR _ this.1 this.2
theorem SKP.farS {w : World} {s km used b n c : Nat} {A : Option Addr} {ans : List Int} {kn : KnP} {t : TypeId} (h : SKP w s km ans used kn) (hb : Blk w b t #[.slice A n c]) (hne : s ≠ b) (hkm : km ≠ b) (u : Value) : SKP (w.setCell ⟨b, 0, none⟩ u) s km ans used kn := by
  obtain ⟨A', c', hs, hr, hn⟩ := h.srch.ex
  exact ⟨⟨A', c', hs.far (p := ⟨b, 0, none⟩) hne u, hr.setCell (p := ⟨b, 0, none⟩) (hr.apart hb notU8s) u, hn⟩, h.map.fr ((Fr.refl [b] w).setCell (.inl (by simp)) u) (by simpa using hkm), h.ne, h.le⟩
def SchDo (w1 : World) (s km bc h0 h1 : Nat) (ans : List Int) (r : List Pk ⊕ (PRes × (Nat × KnP))) (e : Ending) (w' : World) : Prop :=
  match r with
  | .inl q => DoAskP w1 s km [bc] (fun W => ∃ l, CandP W bc (Out h0 h1) l ∧ l.length ≤ 256) q e w'
  | .inr ((er, kept), (u, _)) => DoEndP w1 s km ans [bc] (fun W => ∃ l, CandP W bc (Out h0 h1) l ∧ l.length ≤ 256 ∧ (er = 0 → l = kept)) er u e w'
/-- Between two rounds. -/
def SchInv (w1 : World) (ans : List Int) (full : List Pk ⊕ (PRes × (Nat × KnP))) (s km bc h0 h1 : Nat) (t : Nat) (v : Value) (wr : World) : Prop :=
  ∃ (l : List Pk) (k u : Nat) (kn : KnP), v = .int .i64 k ∧ k ≤ l.length ∧ l.length ≤ 256 ∧ schM l k < t ∧ Hid (NF l) ∧ Hid (full = (schT t l k).go (askSP ans) (u, kn)) ∧ SKP wr s km ans u kn ∧ CandP wr bc (Out h0 h1) l ∧ Fr [s, km, bc] w1 wr

set_option maxRecDepth 100000 in
set_option maxHeartbeats 6400000 in
theorem schdo_any (s km bc h0 : Nat) (ans : List Int) (w0 w1 : World) (l0 : List Pk) (hnf : NF l0) (hl0 : l0.length ≤ 256) (hw0 : Fr [] w0 w1) (htab : Tab w0) (hB : w0.heap.size ≤ bc) (hbh : bc < h0) (hk0 : h0 < km) (hk1 : km < s) (hk2 : s < w1.heap.size)
    (hsk : SKP w1 s km ans 0 []) (hbc : CandP w1 bc (Out h0 w1.heap.size) l0) :
    Calls Tryd.prog 90 #[.pointer (some ⟨s, 0, none⟩), .pointer (some ⟨bc, 0, none⟩)] w1 (SchDo w1 s km bc h0 w1.heap.size ans ((scheduleT l0).go (askSP ans) (0, []))) := by
  have HNF := Lib.hid hnf
  have HTD : Hid (scheduleT l0 = .ask l0 fun v => if v = 2 then schT (schM l0 0 + 1) l0 0 else .ret (7, l0)) := rfl
  have hout : ∀ x ∈ [s, km], ¬ Out h0 w1.heap.size x := by intro x hx; simp at hx; rcases hx with rfl | rfl <;> exact out_s (by omega) (by omega)
  have HOUT := Lib.hid hout
  clear hnf hout
  obtain ⟨A1, c1, hb1, hr1, hn1⟩ := id hbc
  have k0 := hb1.cell 0 rfl
  obtain ⟨full, hful⟩ : ∃ f, (scheduleT l0).go (askSP ans) (0, []) = f := ⟨_, rfl⟩
  rw [hful]
  have HFUL := Lib.hid hful
  clear hful
  rcases hq : askVP ans 0 [] l0 with _ | ⟨v, u, kn⟩
  · have hR : Hid (full = .inl l0) := by show _ = _; rw [← HFUL.out, HTD.out, Tr.go_none (askS_noneP hq)]
    have HQ := Lib.hid hq
    clear hq
    go_enter Tryd.func90, Tryd.ntmps90
    go_wp2_with fail
    refine (pf_ask s km ans 0 [] A1 c1 l0 w1 hsk hr1 (by omega) HNF.out.i64 (htab.fr hw0) HQ.out).mono ?_
    rintro e w2 ⟨A2, c2, rfl, hr2, hf2, hnw⟩
    go_wp2
    rw [hR.out]
    exact ⟨rfl, A2, c2, rfl, hr2, hf2.mono (by simp), hnw, l0, hbc.fr0 hf2, hl0⟩
  · have hfl : full = (if v = 2 then schT (schM l0 0 + 1) l0 0 else .ret (7, l0)).go (askSP ans) (u, kn) := by
      rw [← HFUL.out, HTD.out, Tr.go_some (askS_someP hq)]
    have HQ := Lib.hid hq
    clear hq
    by_cases hv : v = 2
    · have hb2 : (v == 2) = true := by simp [hv]
      rw [if_pos hv] at hfl
      have HFL := Lib.hid hfl
      clear hfl hv
      go_enter Tryd.func90, Tryd.ntmps90
      go_wp2_with fail
      refine (pf_got s km ans 0 [] A1 c1 l0 w1 hsk hr1 (by omega) HNF.out.i64 (htab.fr hw0) HQ.out).mono ?_
      rw [hb2]
      rintro e w2 ⟨rfl, hf2, hsk2⟩
      have hI : SchInv w1 ans full s km bc h0 w1.heap.size (schM l0 0 + 1) (.int .i64 (0 : Nat)) w2 :=
        ⟨l0, 0, u, kn, rfl, Nat.zero_le _, hl0, Nat.lt_succ_self _, HNF, HFL, hsk2, hbc.fr hf2 (by simp; omega) HOUT.out, hf2.mono (by simp)⟩
      clear hf2 hsk2 HFL hb1 hr1 hn1 k0 hbc
      go_wp2_with fail
      go_loopg [4] (schM l0 0 + 1) (SchInv w1 ans full s km bc h0 w1.heap.size)
      case atStart => exact hI
      case round =>
        clear hI
        obtain ⟨l, k, u5, kk, rfl, hkl, hll, hm5, hnf5, hfu, hsk5, hbc5, hf5⟩ := hrel
        obtain ⟨t, rfl⟩ : ∃ t, gk = t + 1 := ⟨gk - 1, by omega⟩
        obtain ⟨A5, c5, hb5, hr5, hn5⟩ := id hbc5
        have k5 := hb5.cell 0 rfl
        have hF5 : Fr [] w0 wr := hw0.trans2 hf5 (by simp; omega)
        have hz5 := hf5.size
        by_cases hlt : k < l.length
        · have hlc := later_any A5 c5 l k wr hr5 hlt
          by_cases hln : laterOf l k < 0
          · rw [sch_skip hlt hln] at hfu
            have hsm := sch_next (l := l) hlt
            generalize laterOf l k = lt at *
            have dl : decide (lt < 0) = true := by simpa using hln
            go_wp2_with fail
            refine hlc.mono ?_
            rintro e w6 ⟨rfl, n6, rfl⟩
            have hf6 : Fr [] wr (wr.drewN n6) := (Fr.refl _ _).drewN n6
            go_wp2_with fail
            go_roundg t
            case measure => omega
            case rel => exact ⟨l, k + 1, u5, kk, by go_num, by omega, hll, by omega, hnf5, hfu, hsk5.fr0 hf6, hbc5.fr0 hf6, hf5.trans0 hf6⟩
          · rw [sch_ask hlt hln] at hfu
            obtain ⟨⟨nx, hnx, hnx1, hnx2, hmv, hfine⟩, hnfm, hless, _⟩ := mv_step hnf5.out hln
            have HNX : Hid (laterOf l k = (nx : Int)) := hnx
            have hmc := fun W' (hr : Rp W' A5 c5 l) => moved_any A5 c5 l k nx W' hr (by omega) hnx1 hnx2 HNX hfine
            rw [← hmv] at hmc
            have HM1 := Lib.hid (sch_less hnf5.out hln hll)
            have HM2 := Lib.hid (sch_next (l := l) hlt)
            have HMC := Lib.hid hmc
            have HNM := Lib.hid hnfm
            rw [hnx] at hlc
            clear hmc hnfm hmv hfine hnx
            generalize mvdOf l k = mo at *
            have dl : decide ((nx : Int) < 0) = false := by simp
            go_wp2_with fail
            refine hlc.mono ?_
            rintro e w6 ⟨rfl, n6, rfl⟩
            have hf6 : Fr [] wr (wr.drewN n6) := (Fr.refl _ _).drewN n6
            have k6 := (hb5.fr hf6 (by simp)).cell 0 rfl
            go_wp2_with fail
            refine (HMC.out _ (hr5.fr0 hf6)).mono ?_
            rintro e w7 ⟨A7, c7, rfl, hf7, ho7⟩
            have hFa := hf6.trans hf7
            have hsk7 := hsk5.fr0 hFa
            have hbc7 := hbc5.fr0 hFa
            have hf7' := hf5.trans0 hFa
            have hrx : Rp w7 A7 c7 mo := (Rp.of_own ho7).2
            have hnw7 := Nw.own ho7
            have hF7 : Fr [] w0 w7 := hF5.trans hFa
            have hz7 := hf6.size
            have hlm : mo.length ≤ 256 := by omega
            clear k5 k6 hb5 hr5 hn5 hsk5 hbc5 hlc HMC
            rcases hq : askVP ans u5 kk mo with _ | ⟨v2, u2, kn2⟩
            · have hR : Hid (full = .inl mo) := by show _ = _; rw [hfu.out, Tr.go_none (askS_noneP hq)]
              have HQ2 := Lib.hid hq
              clear hq
              go_wp2_with fail
              refine (pf_ask s km ans u5 kk A7 c7 mo _ hsk7 hrx (by omega) HNM.out.i64 (htab.fr hF7) HQ2.out).mono ?_
              rintro e w8 ⟨A8, c8, rfl, hr8, hf8, hnw8⟩
              go_wp2
              rw [hR.out]
              exact ⟨rfl, A8, c8, rfl, hr8, (hf7'.trans0 hf8).mono (by simp), hnw8.mono hf7'.size, l, hbc7.fr0 hf8, by omega⟩
            · have hfl : full = (if v2 = 2 then schT t mo 0 else schT t l (k + 1)).go (askSP ans) (u2, kn2) := by
                rw [hfu.out, Tr.go_some (askS_someP hq)]
              have HQ2 := Lib.hid hq
              clear hq hfu
              by_cases hv2 : v2 = 2
              · have hb3 : (v2 == 2) = true := by simp [hv2]
                rw [if_pos hv2] at hfl
                have HFL := Lib.hid hfl
                clear hfl hv2
                go_wp2_with fail
                refine (pf_got s km ans u5 kk A7 c7 mo _ hsk7 hrx (by omega) HNM.out.i64 (htab.fr hF7) HQ2.out).mono ?_
                rw [hb3]
                rintro e w8 ⟨rfl, hf8, hsk8⟩
                have hbc8 := hbc7.fr hf8 (by simp; omega) HOUT.out
                obtain ⟨A9, c9, hb9, hr9, hn9⟩ := id hbc8
                have k9 := hb9.cell 0 rfl
                have k9f := hb9.frozen 0
                have ho8 := own_fr ho7 hf8 (fun k hk => by have h1 := (ho7.lt k hk).1; simp; omega)
                have hf8b := hf7'.trans (hf8.mono (T := [s, km, bc]) (by simp))
                go_wp2_with fail
                go_roundg t
                case measure => omega
                case rel =>
                  refine ⟨mo, 0, u2, kn2, by go_num, Nat.zero_le _, hlm, by have := HM1.out; omega, HNM, HFL.out, hsk8.farS hb9 (by omega) (by omega) _, candP_new hb9 ho8 (fun b h1 h2 => .inr ?_) ?_, hf8b.setCell (.inl (by simp)) _⟩
                  · omega
                  · omega
              · have hb3 : (v2 == 2) = false := by simpa using hv2
                rw [if_neg hv2] at hfl
                have HFL := Lib.hid hfl
                clear hfl hv2
                go_wp2_with fail
                refine (pf_got s km ans u5 kk A7 c7 mo _ hsk7 hrx (by omega) HNM.out.i64 (htab.fr hF7) HQ2.out).mono ?_
                rw [hb3]
                rintro e w8 ⟨rfl, hf8, hsk8⟩
                have hbc8 := hbc7.fr hf8 (by simp; omega) HOUT.out
                go_wp2_with fail
                go_roundg t
                case measure => omega
                case rel => exact ⟨l, k + 1, u2, kn2, by go_num, by omega, hll, by have := HM2.out; omega, hnf5, HFL.out, hsk8, hbc8, hf7'.trans (hf8.mono (by simp))⟩
        · have hR : Hid (full = .inr ((0, l), (u5, kk))) := by show _ = _; rw [hfu.out, sch_end hlt]; rfl
          go_wp2
          go_ret
          rw [hR.out]
          exact ⟨rfl, hsk5.srch, hf5, l, hbc5, by omega, fun _ => rfl⟩
    · have hb2 : (v == 2) = false := by simpa using hv
      rw [if_neg hv] at hfl
      have hR : Hid (full = .inr ((7, l0), (u, kn))) := hfl
      clear hfl hv
      go_enter Tryd.func90, Tryd.ntmps90
      go_wp2_with fail
      refine (pf_got s km ans 0 [] A1 c1 l0 w1 hsk hr1 (by omega) HNF.out.i64 (htab.fr hw0) HQ.out).mono ?_
      rw [hb2]
      rintro e w2 ⟨rfl, hf2, hsk2⟩
      go_wp2
      go_ret
      rw [hR.out]
      exact ⟨rfl, hsk2.srch, hf2.mono (by simp), l0, hbc.fr hf2 (by simp; omega) HOUT.out, hl0, by simp⟩
end Go.Proofs.YtjpbmbonccenfaaDoor

/- Schedule of the program. -/
namespace Go.Proofs.YtjpbmbonccenfaaDoor
open Go.RowKit
set_option linter.unusedVariables false

theorem enter_sch (args : Array Value) (w : World) : (callFunc 90 args).run Tryd.prog w = .ok (.enter 90 args) w := by
  simp [go_sem]
/-- The call returns a schedule's quest and an error. -/
def RetPq (w : World) (r : Pq × Int) (e : Ending) (w' : World) : Prop :=
  ∃ A c, e = .returned (.tuple #[.agg #[.bool r.1.done, .slice A r.1.picks.length c], .int .i64 r.2]) ∧ Fr [] w w' ∧ Rp w' A c r.1.picks
theorem results_pq {fn : Func} {p t : Tmp} (h : fn.results = #[.cell p 51, .tmp t]) (tmps : Array Value) (w : World) (g : Nat) {a0 a1 : Value} (hp : tmps.getD p undef = .pointer (some ⟨g, 0, none⟩)) (hb : Blk w g 51 #[a0, a1]) :
    (results fn tmps).run Tryd.prog w = .ok (.tuple #[.agg #[a0, a1], tmps.getD t undef]) w := by
  have c0 := hb.cell 0 rfl
  have c1 := hb.cell 1 rfl
  simp only [Array.getD_eq_getD_getElem?] at hp
  simp [results, h, go_sem, hp, c0, c1]
theorem notI64q {b : Bool} {A : Option Addr} {n c : Nat} (i : Nat) (u : Value) (h : (#[Value.bool b, Value.slice A n c] : Array Value)[i]? = some u) (x : Int) : u ≠ .int .i64 x := by
  match i, h with
  | 0, h => simp at h; subst h; simp
  | 1, h => simp at h; subst h; simp
theorem pq_ret {w w3 : World} {g : Nat} {r : Pq × Int} {A : Option Addr} {c : Nat} {b0 : Bool} {A1 : Option Addr} {n1 m1 : Nat} (hg : w.heap.size ≤ g) (hf : Fr [] w w3) (hb : Blk w3 g 51 #[.bool b0, .slice A1 n1 m1]) (h1 : Rp w3 A c r.1.picks) :
    RetPq w r (.returned (.tuple #[.agg #[.bool r.1.done, .slice A r.1.picks.length c], .int .i64 r.2])) ((w3.setCell ⟨g, 0, none⟩ (.bool r.1.done)).setCell ⟨g, 1, none⟩ (.slice A r.1.picks.length c)) := by
  have hfr : Fr [g] w3 ((w3.setCell ⟨g, 0, none⟩ (.bool r.1.done)).setCell ⟨g, 1, none⟩ (.slice A r.1.picks.length c)) := ((Fr.refl [g] w3).setCell (p := ⟨g, 0, none⟩) (.inl (by simp)) _).setCell (p := ⟨g, 1, none⟩) (.inl (by simp)) _
  exact ⟨A, c, rfl, hf.trans2 hfr (by simp; omega), h1.fr hfr (fun h0 a ha => by simpa using h1.apart hb notI64q h0 a ha)⟩
theorem Blk.two {w : World} {g : Nat} {t : TypeId} {x0 x1 : Value} (h : Blk w g t #[x0, x1]) (a0 a1 : Value) : Blk ((w.setCell ⟨g, 0, none⟩ a0).setCell ⟨g, 1, none⟩ a1) g t #[a0, a1] := (h.set_ 0 a0).set_ 1 a1

set_option maxRecDepth 100000 in
set_option maxHeartbeats 6400000 in
theorem Schedule_any (A D : Option Addr) (c d : Nat) (ps : List Pk) (ans : List Int) (w : World) (ha : Rp w A c ps) (hlen : ps.length ≤ 100000) (hd : Rd w (.int .u8) D d ans) (htab : Tab w) :
    Calls Tryd.prog 35 #[.slice A ps.length c, .slice D ans.length d] w (RetPq w (scheduleOf ps ans)) := by
  have hmf : ∀ (fn : Fn) (first cap : Array Value) (w : World), (Instr.makeFunc fn first cap).run Tryd.prog w = .ok (.func fn first cap) w := fun _ _ _ _ => rfl
  obtain ⟨W, hW⟩ : ∃ W, W = (w.alloc (.cells #[.slice A ps.length c] 47)).alloc (.cells #[.bool false, .slice none 0 0] 51) := ⟨_, rfl⟩
  have hfW : Fr [] w W := by rw [hW]; exact (by repeat (first | exact Fr.refl _ _ | assumption | apply Fr.drewN | apply Fr.drew | apply Fr.alloc | refine Fr.setCell ?_ (by simp) _))
  have hb0 : Blk W w.heap.size 47 #[.slice A ps.length c] := by rw [hW]; exact (Blk.new w _ _ _ rfl).alloc _
  have hb1 : Blk W (w.heap.size + 1) 51 #[.bool false, .slice none 0 0] := by rw [hW]; exact Blk.new (w.alloc _) _ _ _ (by simp)
  have hzW : W.heap.size = w.heap.size + 2 := by rw [hW]; simp
  have HW := Lib.hid hW.symm
  have e0 := hb0.cell 0 rfl
  rw [hW] at e0
  clear hW
  have HZ := Lib.hid hzW
  clear hzW
  have hn0 : ∀ W : World, Rp W none 0 ([] : List Pk) := fun W => Rp.nil_ W
  have HSC : Hid (scheduleOf ps ans = if (normal ps).2 ≠ 0 then (⟨false, []⟩, (normal ps).2) else if 256 < (normal ps).1.length then (⟨false, []⟩, 3) else qOfP ans (scheduleT (normal ps).1)) := rfl
  have hnf := Lib.hid (fun h => nf_normal (ps := ps) h)
  have hnr := Normal_any A c ps W (ha.fr0 hfW) (by omega)
  generalize normal ps = nr at *
  obtain ⟨l, er⟩ := nr
  go_enter Tryd.func35, Tryd.ntmps35
  go_wp2_with fail
  rw [HW.out]
  refine hnr.mono ?_
  rintro e w2 ⟨A2, c2, rfl, hf2, ho2⟩
  have hF2 := hfW.trans hf2
  have hc2 := hb0.fr hf2 (by simp)
  have hq2 := hb1.fr hf2 (by simp)
  have hz2 := hf2.size
  have hz := HZ.out
  have k2 := hc2.cell 0 rfl
  have f2 := hc2.frozen 0
  have hcand := candP_new (R := fun b => b < w2.heap.size) hc2 ho2 (fun b _ h1 => h1) (by omega)
  have hq3 := hq2.far (p := ⟨w.heap.size, 0, none⟩) (by show w.heap.size + 1 ≠ w.heap.size; omega) (.slice A2 l.length c2)
  have hF3 : Fr [] w (w2.setCell ⟨w.heap.size, 0, none⟩ (.slice A2 l.length c2)) := hF2.setCell (p := ⟨w.heap.size, 0, none⟩) (.inr (Nat.le_refl _)) _
  have hz3 : w.heap.size + 2 ≤ (w2.setCell ⟨w.heap.size, 0, none⟩ (.slice A2 l.length c2)).heap.size := by simp; omega
  clear hnr hb0 hb1 e0 HW hf2 ho2 hF2 hq2 hz2
  by_cases her : er = 0
  · subst her
    have hNF : NF l := hnf.out rfl
    have HN0 : Hid (scheduleOf ps ans = if 256 < l.length then (⟨false, []⟩, 3) else qOfP ans (scheduleT l)) := by show _ = _; rw [HSC.out]; exact if_neg (by simp)
    have qc0 := hq3.cell 0 rfl
    have qc1 := hq3.cell 1 rfl
    have qd0 := hq3.frozen 0
    have qd1 := hq3.frozen 1
    obtain ⟨w3, hw3⟩ : ∃ w3, w3 = w2.setCell ⟨w.heap.size, 0, none⟩ (.slice A2 l.length c2) := ⟨_, rfl⟩
    have HW3 := Lib.hid hw3.symm
    have hzz : w3.heap.size = w2.heap.size := by rw [hw3]; simp
    rw [← hw3] at hcand hq3 hF3 hz3 qc0 qc1 qd0 qd1
    have kc3 : w3.cell? ⟨w.heap.size, 0, none⟩ = some (.slice A2 l.length c2) := by rw [hw3]; exact (hc2.set_ 0 (.slice A2 l.length c2)).cell 0 (by simp)
    clear hw3 hnf HSC
    have hdr := hd.fr0 hF3
    by_cases hll : 256 < l.length
    · have hcb : decide ((l.length : Int) > 256) = true := by simp; omega
      have hR : Hid (scheduleOf ps ans = (⟨false, []⟩, 3)) := by show _ = _; rw [HN0.out, if_pos hll]
      clear hcand hdr hNF HN0
      have e3 := HW3.out
      subst e3
      go_wp2_with fail
      refine bodyPost_ret (results_pq rfl _ _ (w.heap.size + 1) rfl (hq3.two _ _)) rfl ?_
      rw [hR.out]
      exact pq_ret (r := (⟨false, []⟩, 3)) (by omega) hF3 hq3 (hn0 _)
    · have hcb : decide ((l.length : Int) > 256) = false := by simp; omega
      have hR0 : Hid (scheduleOf ps ans = qOfP ans (scheduleT l)) := by show _ = _; rw [HN0.out, if_neg hll]
      clear HN0
      by_cases h4 : 4096 < ans.length
      · have hR : Hid (scheduleOf ps ans = (⟨false, []⟩, 3)) := by show _ = _; rw [hR0.out]; unfold qOfP; rw [if_pos h4]
        go_wp2_with fail
        rw [HW3.out]
        go_wp2_with fail
        refine (run_limitP _ D d ans _ hdr h4).mono ?_
        rintro e w5 ⟨rfl, hf5⟩
        have hB5 := hq3.fr hf5 (by simp)
        have hF5 := hF3.trans hf5
        have r0 := hB5.cell 0 rfl
        have r1 := hB5.cell 1 rfl
        have s0 := hB5.frozen 0
        have s1 := hB5.frozen 1
        go_wp2_with fail
        refine bodyPost_ret (results_pq rfl _ _ (w.heap.size + 1) rfl (hB5.two _ _)) rfl ?_
        rw [hR.out]
        exact pq_ret (r := (⟨false, []⟩, 3)) (by omega) hF5 hB5 (hn0 _)
      · obtain ⟨full, hful⟩ : ∃ f, (scheduleT l).go (askSP ans) (0, []) = f := ⟨_, rfl⟩
        have hR : Hid (scheduleOf ps ans = finP ans full) := by show _ = _; rw [hR0.out]; unfold qOfP; rw [if_neg h4, hful]
        have hdo : ∀ w1, AtDoP w3 w1 ans → Calls Tryd.prog 90 (#[.pointer (some ⟨w3.heap.size + 1 + 1, 0, none⟩)] ++ #[.pointer (some ⟨w.heap.size, 0, none⟩)]) w1
            (SchDo w1 (w3.heap.size + 1 + 1) (w3.heap.size + 1) w.heap.size w3.heap.size (w3.heap.size + 3) ans ((scheduleT l).go (askSP ans) (0, []))) := fun w1 hat => by
          have hz := hat.size
          rw [← hz]
          have hb1 := hat.fr.size
          have hc1 := hcand.fr0 hat.fr
          obtain ⟨A9, c9, g1, g2, g3⟩ := hc1
          exact schdo_any (w3.heap.size + 1 + 1) (w3.heap.size + 1) w.heap.size w3.heap.size ans w w1 l hNF (by omega) (hF3.trans hat.fr) htab (by omega) (by omega) (by omega) (by omega) (by omega) ⟨hat.srch, hat.map, by omega, by simp⟩ ⟨A9, c9, g1, g2, fun h0 a ha => .inl (by have := g3 h0 a ha; omega)⟩
        rw [hful] at hdo
        have h4' : ans.length ≤ 4096 := by omega
        have hS : ∀ x ∈ [w.heap.size], x < w3.heap.size := by simp; omega
        clear hful h4 hR0
        rcases full with q | ⟨⟨er, kept⟩, u, kn⟩
        · go_wp2_with fail
          rw [HW3.out]
          go_wp2_with fail
          refine (run_askP w3 D d ans 90 _ _ hS _ q hdr h4' enter_sch hdo).mono ?_
          rintro e w5 ⟨A5, c5, rfl, hr5, hf5, hnw, wd, _, hfd⟩
          clear hdo
          have hB5 := hq3.fr hf5 (by simp)
          have hF5 : Fr [] w w5 := hF3.trans2 hf5 (by simp)
          have r0 := hB5.cell 0 rfl
          have r1 := hB5.cell 1 rfl
          have s0 := hB5.frozen 0
          have s1 := hB5.frozen 1
          go_wp2_with fail
          refine bodyPost_ret (results_pq rfl _ _ (w.heap.size + 1) rfl (hB5.two _ _)) rfl ?_
          rw [hR.out]
          exact pq_ret (r := (⟨false, q⟩, 0)) (by omega) hF5 hB5 hr5
        · go_wp2_with fail
          rw [HW3.out]
          go_wp2_with fail
          refine (run_endP w3 D d ans 90 _ _ hS _ er u hdr h4' enter_sch hdo).mono ?_
          rintro e w5 ⟨rfl, hf5, wd, ⟨cd, hcd, hcdl, hck⟩, hfd⟩
          clear hdo
          have hcd5 := hcd.fr hfd (by simp; omega) (by intro x hx; simp at hx; subst hx; exact out_s (Nat.le_refl _) (by omega))
          obtain ⟨A6, c6, hbk6, hcr6, _⟩ := hcd5
          have k5 := hbk6.cell 0 rfl
          have hB5 := hq3.fr hf5 (by simp)
          have hF5 : Fr [] w w5 := hF3.trans2 hf5 (by simp)
          have hz5 := hf5.size
          have r0 := hB5.cell 0 rfl
          have r1 := hB5.cell 1 rfl
          have s0 := hB5.frozen 0
          have s1 := hB5.frozen 1
          have HFE : Hid ((if er ≠ 0 then er else if u < ans.length then 8 else 0) ≠ 0 → finP ans (.inr ((er, kept), (u, kn))) = (⟨false, []⟩, if er ≠ 0 then er else if u < ans.length then 8 else 0)) := by
            show _ → _
            intro h
            unfold finP
            by_cases h1 : er ≠ 0
            · simp [h1]
            · by_cases h2 : u < ans.length
              · simp [h1, h2]
              · simp [h1, h2] at h
          have HFD : Hid ((if er ≠ 0 then er else if u < ans.length then 8 else 0) = 0 → decide (er = 0 ∧ ans.length ≤ u) = true ∧ finP ans (.inr ((er, kept), (u, kn))) = (⟨true, cd⟩, 0)) := by
            show _ → _
            intro h
            unfold finP
            by_cases h1 : er = 0
            · by_cases h2 : u < ans.length
              · simp [h1, h2] at h
              · simp [h1, h2, hck h1]; omega
            · simp [h1] at h
          clear hck hcd hfd
          generalize decide (er = 0 ∧ ans.length ≤ u) = dn at *
          generalize (if er ≠ 0 then er else if u < ans.length then 8 else 0) = er2 at *
          by_cases he2 : er2 = 0
          · obtain ⟨h5, h6⟩ := HFD.out he2
            have HF6 := Lib.hid h6
            subst h5 he2
            clear HFE HFD h6
            have hcl : cd.length * 16 ≤ 140737488355328 := by omega
            have hR2 : Hid (scheduleOf ps ans = (⟨true, cd⟩, 0)) := by show _ = _; rw [hR.out, HF6.out]
            clear r0 r1 s0 s1 qc0 qc1 qd0 qd1
            go_wp2_with (at_builtin; refine wpList_append_pks rfl (.const (.slice none 0 0)) (.tmp 39) rfl (.slice none 0 0) [] rfl (World.ownsRow_nil w5 w5.heap.size _ 2) A6 c6 cd rfl hcr6 (by omega) (Nat.le_refl _) ?_; intro A7 c7 w7 ho7 hg7 hat7; have hB7 := hB5.grown hg7 (by simp [Value.ownBlock]); have hF7 := hF5.grown hg7 (by simp [Value.ownBlock]); have u0 := hB7.cell 0 rfl; have u1 := hB7.cell 1 rfl; have v0 := hB7.frozen 0; have v1 := hB7.frozen 1; rw [Nat.zero_add] at ho7)
            refine bodyPost_ret (results_pq rfl _ _ (w.heap.size + 1) rfl (hB7.two _ _)) rfl ?_
            rw [hR2.out]
            exact pq_ret (r := (⟨true, cd⟩, 0)) (by omega) hF7 hB7 (Rp.of_own ho7).2
          · have heb : (er2 != 0) = true := by simpa using he2
            have hR2 : Hid (scheduleOf ps ans = (⟨false, []⟩, er2)) := by show _ = _; rw [hR.out, HFE.out he2]
            clear he2 HFE HFD hR
            go_wp2_with fail
            refine bodyPost_ret (results_pq rfl _ _ (w.heap.size + 1) rfl (hB5.two _ _)) rfl ?_
            rw [hR2.out]
            exact pq_ret (r := (⟨false, []⟩, er2)) (by omega) hF5 hB5 (hn0 _)
  · have heb : (er != 0) = true := by simpa using her
    have hR : Hid (scheduleOf ps ans = (⟨false, []⟩, er)) := by show _ = _; rw [HSC.out]; exact if_pos her
    have qc0 := hq3.cell 0 rfl
    have qc1 := hq3.cell 1 rfl
    have qd0 := hq3.frozen 0
    have qd1 := hq3.frozen 1
    clear her hcand
    go_wp2_with fail
    refine bodyPost_ret (results_pq rfl _ _ (w.heap.size + 1) rfl (hq3.two _ _)) rfl ?_
    rw [hR.out]
    exact pq_ret (r := (⟨false, []⟩, er)) (by omega) hF3 hq3 (hn0 _)
end Go.Proofs.YtjpbmbonccenfaaDoor
