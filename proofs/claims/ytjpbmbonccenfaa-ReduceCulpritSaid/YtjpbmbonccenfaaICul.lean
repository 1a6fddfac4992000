/- Culprits: the function that run is handed. -/
import Derived.Test.YtjpbmbonccenfaaCul
import Derived.Deep.LoopGhost
import Derived.Deep.RegionHeld3
namespace Go.Proofs.Ytjpbmbonccenfaa
open Go.RowKit
set_option linter.unusedVariables false

/-- The variable of the candidates: its block, the slice within; the numbers lie in blocks of which R holds. -/
def CandAt (W : World) (bc : Nat) (R : Nat → Prop) (cand : List Int) : Prop :=
  ∃ A c, Blk W bc 24 #[.slice A cand.length c] ∧ Rd W (.int .i64) A c cand ∧ (0 < cand.length → ∀ a, A = some a → R a.block)
/-- Below h0, or from h1 on. -/
def Out (h0 h1 b : Nat) : Prop := b < h0 ∨ h1 ≤ b
def CulDo (w1 : World) (s km bc h0 h1 : Nat) (ans : List Int) (o : Option (Int ⊕ (List Int × Nat))) (e : Ending) (w' : World) : Prop :=
  match o with
  | none => False
  | some (.inl v) => DoAsk w1 s km [bc] (fun W => ∃ cd, CandAt W bc (Out h0 h1) cd ∧ cd.length ≤ 256) [v] e w'
  | some (.inr (cd, u)) => DoEnd w1 s km ans [bc] (fun W => CandAt W bc (Out h0 h1) cd ∧ cd.length ≤ 256) 0 u e w'
/-- Between two rounds. -/
def CulInv (w1 : World) (P : List (List Int)) (T : Int) (ans : List Int) (full : Option (Int ⊕ (List Int × Nat))) (s km bc h0 h1 v kv : Nat) (t : Nat) (skv : Value) (wr : World) : Prop :=
  ∃ (cand sk : List Int) (m : List (Int × Int)) (u : Nat) (A : Option Addr) (c : Nat), skv = .slice A sk.length c ∧ wr.ownsRow (v + 1) 3 1 (.slice A sk.length c) sk.length (sk.map (.int .i64)) ∧ u ≤ ans.length ∧ sk.length + t ≤ 1000 ∧
    (minus cand sk).length < t ∧ Hid (CulOk P cand sk (isKn m)) ∧ Hid (full = culI P ans T.toNat t cand sk u) ∧ Srch wr s ans u km ∧ Vers wr v s T kv m ∧ CandAt wr bc (fun b => Out h0 h1 b ∧ (Value.slice A sk.length c).ownBlock ≠ some b) cand ∧ Fr [s, bc] w1 wr

theorem CandAt.fr {S : List Nat} {W W' : World} {bc : Nat} {R : Nat → Prop} {cand : List Int} (h : CandAt W bc R cand) (hf : Fr S W W') (hb : bc ∉ S) (hS : ∀ x ∈ S, ¬ R x ∨ ∃ m : List (Int × Int), MapAt W x (Value.int .i64) (Value.int .u8) m) : CandAt W' bc R cand := by
  obtain ⟨A, c, h1', h2, h3⟩ := h
  refine ⟨A, c, h1'.fr hf hb, h2.fr hf (fun h0' a ha hm => ?_), h3⟩
  rcases hS _ hm with h4 | ⟨m, h4⟩
  · exact h4 (h3 h0' a ha)
  · exact h2.apartM h4 h0' a ha rfl
theorem CandAt.fr0 {W W' : World} {bc : Nat} {R : Nat → Prop} {cand : List Int} (h : CandAt W bc R cand) (hf : Fr [] W W') : CandAt W' bc R cand := h.fr hf (by simp) (by simp)
theorem CandAt.imp {W : World} {bc : Nat} {R R' : Nat → Prop} {cand : List Int} (h : CandAt W bc R cand) (hi : ∀ b, b < W.heap.size → R b → R' b) : CandAt W bc R' cand := by
  obtain ⟨A, c, h1, h2, h3⟩ := h
  exact ⟨A, c, h1, h2, fun h0 a ha => hi _ (h2.lt h0 a ha) (h3 h0 a ha)⟩
theorem candAt_new {W : World} {bc B n c : Nat} {x : Value} {A : Option Addr} {cd : List Int} {R : Nat → Prop} (hb : Blk W bc 24 #[x]) (ho : W.ownsRow B 3 1 (.slice A n c) n (cd.map (.int .i64))) (hR : ∀ b, B ≤ b → b < W.heap.size → R b) (hne : bc < B) :
    CandAt (W.setCell ⟨bc, 0, none⟩ (.slice A n c)) bc R cd := by
  obtain ⟨hn, hr⟩ := Rd.of_own ho
  subst hn
  refine ⟨A, c, hb.set_ 0 _, hr.setCell (fun h0 a ha => ?_) _, fun h0 a ha => ?_⟩
  · subst ha
    have := (ho.lt _ rfl).1
    show a.block ≠ bc
    omega
  · subst ha
    have := ho.lt _ rfl
    exact hR _ this.1 this.2
theorem Srch.fr1 {S : List Nat} {w w' : World} {s used km : Nat} {ans : List Int} (h : Srch w s ans used km) (hf : Fr S w w') (hS : ∀ x ∈ S, s < x) : Srch w' s ans used km := by
  obtain ⟨A, c, hb, hr, hn⟩ := h.ex
  refine ⟨A, c, hb.fr hf (fun hm => by have := hS _ hm; omega), hr.fr hf (fun h0 a ha hm => ?_), hn⟩
  have h1 := hS _ hm
  have h2 := hn h0 a ha
  omega
theorem notU8s {A : Option Addr} {n c : Nat} (i : Nat) (u : Value) (h : (#[Value.slice A n c] : Array Value)[i]? = some u) (x : Int) : u ≠ .int .u8 x := by
  match i, h with
  | 0, h => simp at h; subst h; simp
theorem Srch.farS {w : World} {s used km b n c : Nat} {A : Option Addr} {ans : List Int} {t : TypeId} (h : Srch w s ans used km) (hb : Blk w b t #[.slice A n c]) (hne : s ≠ b) (u : Value) : Srch (w.setCell ⟨b, 0, none⟩ u) s ans used km := by
  obtain ⟨A, c, hs, hr, hn⟩ := h.ex
  exact ⟨A, c, hs.far (p := ⟨b, 0, none⟩) hne u, hr.setCell (p := ⟨b, 0, none⟩) (hr.apart hb notU8s) u, hn⟩
theorem CandAt.grown {W W' : World} {bc : Nat} {Q : Nat → Prop} {v v' : Value} {cd : List Int} (h : CandAt W bc (fun b => Q b ∧ v.ownBlock ≠ some b) cd) (hg : W.grownBy W' v.ownBlock) (hb : v.ownBlock ≠ some bc) (hat : v'.ownBlock = v.ownBlock ∨ v'.ownBlock = some W.heap.size) :
    CandAt W' bc (fun b => Q b ∧ v'.ownBlock ≠ some b) cd := by
  obtain ⟨A, c, h1, h2, h3⟩ := h
  have hf : Fr v.ownBlock.toList W W' := (Fr.refl _ _).grown hg (fun k hk => .inl (by rw [hk]; simp))
  refine ⟨A, c, h1.fr hf (by simpa using hb), h2.fr hf (fun h0 a ha => by simpa using (h3 h0 a ha).2), fun h0 a ha => ⟨(h3 h0 a ha).1, ?_⟩⟩
  rcases hat with e | e
  · rw [e]; exact (h3 h0 a ha).2
  · rw [e]
    have := h2.lt h0 a ha
    simp; omega
theorem Fr.ofGrown {W W' : World} {v : Value} (hg : W.grownBy W' v.ownBlock) : Fr v.ownBlock.toList W W' := (Fr.refl _ _).grown hg (fun k hk => .inl (by rw [hk]; simp))
theorem out_s {h0 h1 s : Nat} (h : h0 ≤ s) (h' : s < h1) : ¬ Out h0 h1 s := by unfold Out; omega
theorem isKn_snoc' {m : List (Int × Int)} {v x : Int} : ∀ y, isKn (m ++ [(v, x)]) y = true → isKn m y = true ∨ y = v := fun y hy => by
  rw [isKn_snoc, Bool.or_eq_true] at hy
  simpa using hy

set_option maxRecDepth 100000 in
set_option maxHeartbeats 6400000 in
theorem culdo_any (s km bt bb bh bc h0 : Nat) (times : Int) (ans : List Int) (w0 w1 : World) (A0 : Option Addr) (c0 : Nat) (P : List (List Int)) (cand : List Int) (bad : Int) (ha : Rss w0 A0 c0 P) (hP : ValH P) (hw0 : Fr [] w0 w1)
    (hsB : w0.heap.size ≤ s) (hcB : w0.heap.size ≤ bc) (hs : Srch w1 s ans 0 km) (hbt : Blk w1 bt 3 #[.int .i64 times]) (hbb : Blk w1 bb 3 #[.int .i64 bad]) (hbh : Blk w1 bh 57 #[.slice A0 P.length c0])
    (hbc : CandAt w1 bc (Out h0 w1.heap.size) cand) (hset : isSet P.length cand = true) (hs0 : h0 ≤ s) (hs1 : s < w1.heap.size) (hbcs : bc ≠ s) :
    Calls Try.prog 61 #[.pointer (some ⟨s, 0, none⟩), .pointer (some ⟨bt, 0, none⟩), .pointer (some ⟨bb, 0, none⟩), .pointer (some ⟨bh, 0, none⟩), .pointer (some ⟨bc, 0, none⟩)] w1
      (CulDo w1 s km bc h0 w1.heap.size ans (culI P ans (timesOf times).toNat (cand.length + 1) cand [bad] 0)) := by
  have ct := hbt.cell 0 rfl
  have HP := Lib.hid hP
  have hn := hP.1
  clear hP
  have hT := timesOf_le times
  obtain ⟨hT1, hT9⟩ := hT
  have hcl0 := (set_inR hset).2
  have hbcl : bc < w1.heap.size := by
    obtain ⟨A, c, hb, _⟩ := hbc
    exact hb.lt
  have hbbh : bh ≠ s ∧ bh ≠ bc := by
    obtain ⟨_, _, hb, _⟩ := hs.ex
    obtain ⟨_, _, hb2, _⟩ := hbc
    exact ⟨hbh.ne_ hb (by decide), hbh.ne_ hb2 (by decide)⟩
  go_enter Try.func61, Try.ntmps61
  go_wp2_with fail
  refine (judge_any s times w1).mono ?_
  rintro e w2 ⟨rfl, hf2, hv2⟩
  have hs2 := hs.fr0 hf2
  have cb2 := (hbb.fr hf2 (by simp)).cell 0 rfl
  have hbh2 := hbh.fr hf2 (by simp)
  have hbc2 := hbc.fr0 hf2
  generalize hvb : w1.heap.size + 1 = v at hv2
  have hvl : w1.heap.size < v := by omega
  clear hvb ct
  generalize hkb : w1.heap.size = kv at hv2
  have hks : kv ≠ s := by omega
  have hvs : v ≠ s := by omega
  have hvk : v ≠ kv := by omega
  have hkl : w1.heap.size ≤ kv := by omega
  have hkbc : kv ≠ bc := by omega
  have hvbc : v ≠ bc := by omega
  have hkl2 : kv ≤ w1.heap.size := by omega
  clear hkb
  generalize hTe : timesOf times = T at *
  clear hTe
  go_wp2_with fail
  obtain ⟨full, hfu⟩ : ∃ f, culI P ans T.toNat (cand.length + 1) cand [bad] 0 = f := ⟨_, rfl⟩
  have hw2s := hf2.size
  have hI : CulInv w1 P T ans full s km bc h0 w1.heap.size v kv (cand.length + 1) (.slice (some ⟨w2.heap.size, 0, none⟩) 1 1) (w2.alloc (.cells #[.int .i64 bad] 3)) :=
    ⟨cand, [bad], [], 0, some ⟨w2.heap.size, 0, none⟩, 1, rfl, own_base (own_one w2 3 (.int .i64 bad) _ rfl) (by have := hv2.blk.lt; omega), by omega, by simp; omega, by have := minus_le cand [bad]; omega, ⟨hset, fun x hx => by simp [isKn] at hx⟩, hfu.symm, hs2.fr0 (by repeat (first | exact Fr.refl _ _ | assumption | apply Fr.drewN | apply Fr.drew | apply Fr.alloc | refine Fr.setCell ?_ (by simp) _)), hv2.fr (S := []) (by repeat (first | exact Fr.refl _ _ | assumption | apply Fr.drewN | apply Fr.drew | apply Fr.alloc | refine Fr.setCell ?_ (by simp) _)) (by simp) (by simp), (hbc2.imp (fun b hb hR => ⟨hR, (by simp [Value.ownBlock]; omega)⟩)).fr0 (by repeat (first | exact Fr.refl _ _ | assumption | apply Fr.drewN | apply Fr.drew | apply Fr.alloc | refine Fr.setCell ?_ (by simp) _)), (hf2.mono (by simp)).alloc _⟩
  rw [hfu]
  clear hfu hs2 hv2 hbc2 hset cb2 hbc
  go_loopg [8] (cand.length + 1) (CulInv w1 P T ans full s km bc h0 w1.heap.size v kv)
  case atStart => exact hI
  case round =>
    clear hI
    obtain ⟨cd, sk, m, u, A1, c1, rfl, hown, hu, hskt, hlt, hok, hfu, hsr, hvr, hcd, hf⟩ := hrel
    obtain ⟨t, rfl⟩ : ∃ t, gk = t + 1 := ⟨gk - 1, by omega⟩
    have hw0r : Fr [] w0 wr := hw0.trans2 hf (by simp; omega)
    have hbhr := (hbh2.fr (S := []) (Fr.refl _ _) (by simp))
    have q0 := (hbh.fr hf (by simp; omega)).cell 0 rfl
    obtain ⟨A2, c2, hbk, hcr, hcn⟩ := hcd
    have q1 := hbk.cell 0 rfl
    have q2 := hbk.frozen 0
    have hin : InR P.length cd := (set_inR hok.out.set).1
    have hcl := (set_inR hok.out.set).2
    have HIN := Lib.hid hin
    clear hin
    have hskr := (Rd.of_own hown).2
    go_wp2_with fail
    refine (choose_any A0 A2 A1 c0 c2 c1 P cd sk _ (ha.fr0 hw0r) hcr hskr HP.out HIN.out (by omega)).mono ?_
    rintro e w3 ⟨rfl, hf3⟩
    have hmem := fun h => cul_mem hok.out h
    obtain ⟨at_, hat⟩ : ∃ a, chooseOf P cd sk = a := ⟨_, rfl⟩
    rw [hat] at hmem
    rw [hat]
    have HAT := Lib.hid hat
    clear hat
    have hf13 := hf.trans0 hf3
    by_cases hneg : at_ < 0
    · go_wp2
      go_ret
      have hful : full = some (.inr (cd, u)) := by
        rw [hfu.out, culI, if_pos (by rw [HAT.out]; exact hneg)]
      rw [hful]
      exact ⟨rfl, hsr.fr0 hf3, hf13.mono (by simp), ⟨A2, c2, hbk.fr hf3 (by simp), hcr.fr0 hf3, fun h a ha => (hcn h a ha).1⟩, by omega⟩
    · have hm := hmem hneg
      have HM := Lib.hid hm
      have hlk : Hid (m.lookup at_ = none) := by
        show _ = _
        cases hh : m.lookup at_ with
        | none => rfl
        | some z => exact absurd hm (hok.out.kn at_ (by unfold isKn; rw [hh]; rfl))
      have har := HIN.out at_ (mem_minus.1 hm).1
      have HNEG := Lib.hid hneg
      clear hm hmem
      have hs3 := hsr.fr0 hf3
      have hv3 := hvr.fr hf3 (by simp) (by simp)
      have hc3 : CandAt w3 bc (fun b => Out h0 w1.heap.size b ∧ (Value.slice A1 sk.length c1).ownBlock ≠ some b) cd := ⟨A2, c2, hbk.fr hf3 (by simp), hcr.fr0 hf3, hcn⟩
      have hown3 := own_fr hown hf3 (by simp)
      clear hown hskr hbk hcr hcn q0 q1 q2 hsr hvr
      rcases hver : ver ans T.toNat u 3 with _ | ⟨x, u2⟩
      · have HVE := Lib.hid hver
        clear hver
        go_wp2_with fail
        refine (of_ask v s kv km T m ans u at_ _ hv3 hs3 hvs hks (by omega) (by omega) hu hlk.out HVE.out).mono ?_
        rintro e w6 ⟨A6, c6, rfl, hr6, hf6, hnw⟩
        go_wp2
        have hful : full = some (.inl at_) := by
          rw [hfu.out, culI]
          simp only [HAT.out, if_neg (show ¬ at_ < 0 by have := HNEG.out; omega), HVE.out]
        rw [hful]
        exact ⟨rfl, A6, c6, rfl, hr6, (hf13.mono (by simp)).trans2 hf6 (by simp), hnw.mono hf13.size, cd, (hc3.fr hf6 (by simp; omega) (by intro y hy; simp at hy; subst hy; exact .inl fun h => out_s hs0 hs1 h.1)).imp (fun b _ h => h.1), by omega⟩
      · have HVE := Lib.hid hver
        have hu2 := ver_used hver hu
        clear hver
        go_wp2_with fail
        refine (of_got v s kv km T m ans u at_ _ hv3 hs3 hvs hks hvk (by omega) (by omega) hu hlk.out HVE.out).mono ?_
        rintro e w6 ⟨rfl, hf6, hs6, hv6⟩
        have hf16 : Fr [s, bc] w1 w6 := hf13.trans2 hf6 (by simp; omega)
        have hown6 := own_fr hown3 hf6 (fun k hk => by have := (hown3.lt k hk).1; simp; omega)
        have hc6 : CandAt w6 bc (fun b => Out h0 w1.heap.size b ∧ (Value.slice A1 sk.length c1).ownBlock ≠ some b) cd := hc3.fr hf6 (by simp; omega) (by
          intro x hx
          simp at hx
          rcases hx with rfl | rfl
          · exact .inl fun h => out_s hs0 hs1 h.1
          · exact .inr ⟨_, hv3.map⟩)
        have hstep : Hid (full = if x = 2 then culI P ans T.toNat t (bothL cd (ancOf P [at_])) (sk ++ [at_]) u2 else if x = 1 then culI P ans T.toNat t (minus cd (ancOf P [at_])) sk u2 else culI P ans T.toNat t cd (sk ++ [at_]) u2) := by
          show _ = _
          rw [hfu.out, culI]
          simp only [HAT.out, if_neg (show ¬ at_ < 0 by have := HNEG.out; omega), HVE.out]
        clear hfu hs3 hv3 hc3 hown3 hf6
        have q0 := (hbh.fr hf16 (by simp; omega)).cell 0 rfl
        obtain ⟨A7, c7, hbk7, hcr7, hcn7⟩ := hc6
        have q1 := hbk7.cell 0 rfl
        have q2 := hbk7.frozen 0
        have hw06 : Fr [] w0 w6 := hw0.trans2 hf16 (by simp; omega)
        obtain ⟨an, rfl⟩ : ∃ an : Nat, at_ = an := ⟨at_.toNat, by omega⟩
        by_cases hx2 : x = 2
        · have b2 : (x == 2) = true := by simpa using hx2
          rw [if_pos hx2] at hstep
          obtain ⟨hok', hlt'⟩ := cul_fail (v := (an : Int)) hok.out HM.out (m' := isKn (m ++ [((an : Int), x)])) isKn_snoc'
          have HOK := Lib.hid hok'
          have HLT := Lib.hid hlt'
          have hsl : (sk ++ [(an : Int)]).length = sk.length + 1 := by simp
          clear hx2 hok' hlt' hok
          go_wp2_with fail
          go_region_with (first
            | (go_at_call 59; refine (ancestors_any A0 c0 P an _ (ha.fr0 (hw06.trans (by repeat (first | exact Fr.refl _ _ | assumption | apply Fr.drewN | apply Fr.drew | apply Fr.alloc | refine Fr.setCell ?_ (by simp) _)))) HP.out (by omega)).mono ?_; rintro e w7 ⟨A9, c9, rfl, hf9, hown9⟩; have hf67 : Fr [] w6 w7 := (Fr.trans (by repeat (first | exact Fr.refl _ _ | assumption | apply Fr.drewN | apply Fr.drew | apply Fr.alloc | refine Fr.setCell ?_ (by simp) _)) hf9); have y1 := (hbk7.fr hf67 (by simp)).cell 0 rfl)
            | (go_at_call 63; refine (both_any A7 A9 c7 c9 cd (ancOf P [(an : Int)]) _ (hcr7.fr0 (Fr.trans (by repeat (first | exact Fr.refl _ _ | assumption | apply Fr.drewN | apply Fr.drew | apply Fr.alloc | refine Fr.setCell ?_ (by simp) _)) hf9)) ((Rd.of_own hown9).2.fr0 (by repeat (first | exact Fr.refl _ _ | assumption | apply Fr.drewN | apply Fr.drew | apply Fr.alloc | refine Fr.setCell ?_ (by simp) _))) (by omega)).mono ?_; rintro e w8 ⟨A10, c10, rfl, hf10, hown10⟩; have hf68 : Fr [] w6 w8 := (Fr.trans (Fr.trans (Fr.trans (by repeat (first | exact Fr.refl _ _ | assumption | apply Fr.drewN | apply Fr.drew | apply Fr.alloc | refine Fr.setCell ?_ (by simp) _)) hf9) (by repeat (first | exact Fr.refl _ _ | assumption | apply Fr.drewN | apply Fr.drew | apply Fr.alloc | refine Fr.setCell ?_ (by simp) _))) hf10); have z1 := (hbk7.fr hf68 (by simp)).cell 0 rfl; have z2 := (hbk7.fr hf68 (by simp)).frozen 0))
          all_goals
            have hb8 := hbk7.fr hf68 (by simp)
            have hown8 := own_fr hown6 hf68 (by simp)
            have ho10 := own_base hown10 (show w6.heap.size ≤ _ from by first | exact Nat.le_refl _ | (have := hf67.size; simpa using this) | simp)
            have hc8 : CandAt (w8.setCell ⟨bc, 0, none⟩ (.slice A10 (bothL cd (ancOf P [(an : Int)])).length c10)) bc (fun b => Out h0 w1.heap.size b ∧ (Value.slice A1 sk.length c1).ownBlock ≠ some b) (bothL cd (ancOf P [(an : Int)])) :=
              candAt_new hb8 ho10 (fun b h1 h2 => ⟨.inr (Nat.le_trans hf16.size h1), fun h => by have := (hown6.lt b h).2; omega⟩) (by have := hf16.size; omega)
            have hown9' := own_fr hown8 ((Fr.refl [bc] w8).setCell (p := ⟨bc, 0, none⟩) (.inl (by simp)) (.slice A10 (bothL cd (ancOf P [(an : Int)])).length c10)) (fun k hk => by have := (hown8.lt k hk).1; simp; omega)
            have hf18 : Fr [s, bc] w1 (w8.setCell ⟨bc, 0, none⟩ (.slice A10 (bothL cd (ancOf P [(an : Int)])).length c10)) := (hf16.trans0 hf68).setCell (p := ⟨bc, 0, none⟩) (.inl (by simp)) _
            have hs8 : Srch (w8.setCell ⟨bc, 0, none⟩ (.slice A10 (bothL cd (ancOf P [(an : Int)])).length c10)) s ans u2 km := (hs6.fr0 hf68).farS hb8 (by omega) _
            have hv8 : Vers (w8.setCell ⟨bc, 0, none⟩ (.slice A10 (bothL cd (ancOf P [(an : Int)])).length c10)) v s T kv (m ++ [((an : Int), x)]) := (hv6.fr hf68 (by simp) (by simp)).fr ((Fr.refl [bc] w8).setCell (p := ⟨bc, 0, none⟩) (.inl (by simp)) _) (by simp; omega) (by simp; omega)
            clear hown10 hown9 z1 z2 y1 q0 q1 q2 hf9 hf10
            have hcl8 := both_le cd (ancOf P [(an : Int)])
            have hvlt := hv8.blk.lt
            generalize w8.setCell ⟨bc, 0, none⟩ (.slice A10 (bothL cd (ancOf P [(an : Int)])).length c10) = w9 at *
            go_wp2_with (at_builtin; refine wpList_append_rd rfl (.tmp 35) (.tmp 37) _ rfl elemInts (.slice A1 sk.length c1) _ rfl (hown9'.alloc _) _ _ [(an : Int)] (.int .i64) rfl (Rd.one_cell (by simp)) one_i64 (by simp; omega) (by simp; omega) ?_; intro A11 c11 w11 hown11 hg11 hat11)
            have hne : ∀ k, (Value.slice A1 sk.length c1).ownBlock = some k → v + 1 ≤ k := fun k hk => (hown9'.lt k hk).1
            have hg := Fr.ofGrown hg11
            have hk : ∀ y, y ≤ v → y ∉ (Value.slice A1 sk.length c1).ownBlock.toList := fun y hy hm => by
              have := hne y (by simpa using hm)
              omega
            go_roundg t
            case measure => omega
            case rel =>
              refine ⟨bothL cd (ancOf P [(an : Int)]), sk ++ [(an : Int)], m ++ [((an : Int), x)], u2, A11, c11, by rw [hsl], ?_, hu2.2, by rw [hsl]; omega, by have := HLT.out; omega, HOK.out, hstep, (hs8.fr0 (by repeat (first | exact Fr.refl _ _ | assumption | apply Fr.drewN | apply Fr.drew | apply Fr.alloc | refine Fr.setCell ?_ (by simp) _))).fr1 hg (fun y hy => by have := hne y (by simpa using hy); omega), (hv8.fr (S := []) (by repeat (first | exact Fr.refl _ _ | assumption | apply Fr.drewN | apply Fr.drew | apply Fr.alloc | refine Fr.setCell ?_ (by simp) _)) (by simp) (by simp)).fr hg (hk _ (Nat.le_refl _)) (hk _ (by omega)), ?_, ?_⟩
              · rw [hsl]; simpa using hown11
              · rw [hsl]; exact (hc8.fr0 (by repeat (first | exact Fr.refl _ _ | assumption | apply Fr.drewN | apply Fr.drew | apply Fr.alloc | refine Fr.setCell ?_ (by simp) _))).grown hg11 (fun h => by have := hne _ h; omega) hat11
              · exact (hf18.alloc _).grown hg11 (fun k hk => .inr (by have := hne k hk; omega))
        · have b2 : (x == 2) = false := by simpa using hx2
          rw [if_neg hx2] at hstep
          clear hx2
          by_cases hx1 : x = 1
          · have b1 : (x == 1) = true := by simpa using hx1
            rw [if_pos hx1] at hstep
            obtain ⟨hok', hlt'⟩ := cul_pass (v := (an : Int)) HP.out hok.out HM.out (m' := isKn (m ++ [((an : Int), x)])) isKn_snoc'
            have HOK := Lib.hid hok'
            have HLT := Lib.hid hlt'
            clear hx1 hok' hlt' hok
            go_wp2_with fail
            go_region_with (first
              | (go_at_call 59; refine (ancestors_any A0 c0 P an _ (ha.fr0 (hw06.trans (by repeat (first | exact Fr.refl _ _ | assumption | apply Fr.drewN | apply Fr.drew | apply Fr.alloc | refine Fr.setCell ?_ (by simp) _)))) HP.out (by omega)).mono ?_; rintro e w7 ⟨A9, c9, rfl, hf9, hown9⟩; have hf67 : Fr [] w6 w7 := (Fr.trans (by repeat (first | exact Fr.refl _ _ | assumption | apply Fr.drewN | apply Fr.drew | apply Fr.alloc | refine Fr.setCell ?_ (by simp) _)) hf9); have y1 := (hbk7.fr hf67 (by simp)).cell 0 rfl)
              | (go_at_call 60; refine (withoutN_any A7 A9 c7 c9 cd (ancOf P [(an : Int)]) _ (hcr7.fr0 (Fr.trans (by repeat (first | exact Fr.refl _ _ | assumption | apply Fr.drewN | apply Fr.drew | apply Fr.alloc | refine Fr.setCell ?_ (by simp) _)) hf9)) ((Rd.of_own hown9).2.fr0 (by repeat (first | exact Fr.refl _ _ | assumption | apply Fr.drewN | apply Fr.drew | apply Fr.alloc | refine Fr.setCell ?_ (by simp) _))) (by omega)).mono ?_; rintro e w8 ⟨A10, c10, rfl, hf10, hown10⟩; have hf68 : Fr [] w6 w8 := (Fr.trans (Fr.trans (Fr.trans (by repeat (first | exact Fr.refl _ _ | assumption | apply Fr.drewN | apply Fr.drew | apply Fr.alloc | refine Fr.setCell ?_ (by simp) _)) hf9) (by repeat (first | exact Fr.refl _ _ | assumption | apply Fr.drewN | apply Fr.drew | apply Fr.alloc | refine Fr.setCell ?_ (by simp) _))) hf10); have z1 := (hbk7.fr hf68 (by simp)).cell 0 rfl; have z2 := (hbk7.fr hf68 (by simp)).frozen 0))
            all_goals
              have hb8 := hbk7.fr hf68 (by simp)
              have hown8 := own_fr hown6 hf68 (by simp)
              have ho10 := own_base hown10 (show w6.heap.size ≤ _ from by first | exact Nat.le_refl _ | (have := hf67.size; simpa using this) | simp)
              have hc8 : CandAt (w8.setCell ⟨bc, 0, none⟩ (.slice A10 (minus cd (ancOf P [(an : Int)])).length c10)) bc (fun b => Out h0 w1.heap.size b ∧ (Value.slice A1 sk.length c1).ownBlock ≠ some b) (minus cd (ancOf P [(an : Int)])) :=
                candAt_new hb8 ho10 (fun b h1 h2 => ⟨.inr (Nat.le_trans hf16.size h1), fun h => by have := (hown6.lt b h).2; omega⟩) (by have := hf16.size; omega)
              have hown9' := own_fr hown8 ((Fr.refl [bc] w8).setCell (p := ⟨bc, 0, none⟩) (.inl (by simp)) (.slice A10 (minus cd (ancOf P [(an : Int)])).length c10)) (fun k hk => by have := (hown8.lt k hk).1; simp; omega)
              have hf18 : Fr [s, bc] w1 (w8.setCell ⟨bc, 0, none⟩ (.slice A10 (minus cd (ancOf P [(an : Int)])).length c10)) := (hf16.trans0 hf68).setCell (p := ⟨bc, 0, none⟩) (.inl (by simp)) _
              have hs8 : Srch (w8.setCell ⟨bc, 0, none⟩ (.slice A10 (minus cd (ancOf P [(an : Int)])).length c10)) s ans u2 km := (hs6.fr0 hf68).farS hb8 (by omega) _
              have hv8 : Vers (w8.setCell ⟨bc, 0, none⟩ (.slice A10 (minus cd (ancOf P [(an : Int)])).length c10)) v s T kv (m ++ [((an : Int), x)]) := (hv6.fr hf68 (by simp) (by simp)).fr ((Fr.refl [bc] w8).setCell (p := ⟨bc, 0, none⟩) (.inl (by simp)) _) (by simp; omega) (by simp; omega)
              clear hown10 hown9 z1 z2 y1 q0 q1 q2 hf9 hf10
              generalize w8.setCell ⟨bc, 0, none⟩ (.slice A10 (minus cd (ancOf P [(an : Int)])).length c10) = w9 at *
              go_wp2_with fail
              go_roundg t
              case measure => omega
              case rel => exact ⟨minus cd (ancOf P [(an : Int)]), sk, m ++ [((an : Int), x)], u2, A1, c1, rfl, hown9', hu2.2, by omega, by have := HLT.out; omega, HOK.out, hstep, hs8, hv8, hc8, hf18⟩
          · have b1 : (x == 1) = false := by simpa using hx1
            rw [if_neg hx1] at hstep
            obtain ⟨hok', hlt'⟩ := cul_skip (v := (an : Int)) hok.out HM.out (m' := isKn (m ++ [((an : Int), x)])) isKn_snoc'
            have HOK := Lib.hid hok'
            have HLT := Lib.hid hlt'
            have hsl : (sk ++ [(an : Int)]).length = sk.length + 1 := by simp
            have hc8 : CandAt w6 bc (fun b => Out h0 w1.heap.size b ∧ (Value.slice A1 sk.length c1).ownBlock ≠ some b) cd := ⟨A7, c7, hbk7, hcr7, hcn7⟩
            have hvlt := hv6.blk.lt
            clear hx1 hok' hlt' hok
            go_wp2_with (at_builtin; refine wpList_append_rd rfl (.tmp 24) (.tmp 26) _ rfl elemInts (.slice A1 sk.length c1) _ rfl (hown6.alloc _) _ _ [(an : Int)] (.int .i64) rfl (Rd.one_cell (by simp)) one_i64 (by simp; omega) (by simp; omega) ?_; intro A11 c11 w11 hown11 hg11 hat11)
            have hne : ∀ k, (Value.slice A1 sk.length c1).ownBlock = some k → v + 1 ≤ k := fun k hk => (hown6.lt k hk).1
            have hg := Fr.ofGrown hg11
            have hk : ∀ y, y ≤ v → y ∉ (Value.slice A1 sk.length c1).ownBlock.toList := fun y hy hm => by
              have := hne y (by simpa using hm)
              omega
            go_roundg t
            case measure => omega
            case rel =>
              refine ⟨cd, sk ++ [(an : Int)], m ++ [((an : Int), x)], u2, A11, c11, by rw [hsl], ?_, hu2.2, by rw [hsl]; omega, by have := HLT.out; omega, HOK.out, hstep, (hs6.fr0 (by repeat (first | exact Fr.refl _ _ | assumption | apply Fr.drewN | apply Fr.drew | apply Fr.alloc | refine Fr.setCell ?_ (by simp) _))).fr1 hg (fun y hy => by have := hne y (by simpa using hy); omega), (hv6.fr (S := []) (by repeat (first | exact Fr.refl _ _ | assumption | apply Fr.drewN | apply Fr.drew | apply Fr.alloc | refine Fr.setCell ?_ (by simp) _)) (by simp) (by simp)).fr hg (hk _ (Nat.le_refl _)) (hk _ (by omega)), ?_, ?_⟩
              · rw [hsl]; simpa using hown11
              · rw [hsl]; exact (hc8.fr0 (by repeat (first | exact Fr.refl _ _ | assumption | apply Fr.drewN | apply Fr.drew | apply Fr.alloc | refine Fr.setCell ?_ (by simp) _))).grown hg11 (fun h => by have := hne _ h; omega) hat11
              · exact (hf16.alloc _).grown hg11 (fun k hk => .inr (by have := hne k hk; omega))
end Go.Proofs.Ytjpbmbonccenfaa
