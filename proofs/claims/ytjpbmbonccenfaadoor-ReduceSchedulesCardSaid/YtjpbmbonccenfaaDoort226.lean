/- Texts of this seat, one behind the other: JoinQ. -/
import Derived.Test.YtjpbmbonccenfaaDoort218
import Derived.Test.YtjpbmbonccenfaaDoort225
import Derived.Test.YtjpbmbonccenfaaDoort217
/- joined of the reference. -/
namespace Go.Proofs.YtjpbmbonccenfaaDoor
open Go.RowKit
set_option linter.unusedVariables false

theorem own_frq {B base n size : Nat} {w w' : World} {e : TypeId} {v : Value} {xs : List Value} (h : w.ownsRow base e size v n xs) (hf : FrQ B w w') (he : e ≠ 47 ∧ e ≠ 39 ∧ e ≠ 129) : w'.ownsRow base e size v n xs := by
  refine ⟨h.1, ?_⟩
  rcases h.2 with h2 | ⟨g, cap, cur, he2, hb, hh, r⟩
  · exact .inl h2
  · exact .inr ⟨g, cap, cur, he2, hb, FrQ.blk (show Blk w g e cur from hh) hf (.inr he), r⟩
/-- What the search for a preemption that can be joined leaves. -/
def JoinedPost (B : Nat) (w : World) (bp : Nat) (ans : List Int) (l : List Pk) (full : List Pk ⊕ (PRes × (Nat × KnP))) (e : Ending) (w' : World) : Prop :=
  ∃ (A : Option Addr) (c : Nat) (x : List Pk) (ok : Bool), e = .returned (.tuple #[.slice A x.length c, .bool ok]) ∧ FrQ B w w' ∧ Rp w' A c x ∧ StayQ B w' A ∧
    ((ok = true ∧ NF x ∧ x.length < l.length ∧ ∃ u kn, kn.length ≤ u ∧ full = (schS x 0).go (askSP ans) (u, kn) ∧ PKnQ B w' bp ans u kn false []) ∨
      (ok = false ∧ ∃ q u kn, full = .inl q ∧ PKnQ B w' bp ans u kn true q) ∨
      (ok = false ∧ ∃ u kn, full = .inr ((0, l), (u, kn)) ∧ PKnQ B w' bp ans u kn false []))

set_option maxRecDepth 100000 in
set_option maxHeartbeats 3200000 in
theorem refjoined_any (B bp : Nat) (ans : List Int) (used : Nat) (kn : KnP) (A : Option Addr) (c : Nat) (l : List Pk) (full : List Pk ⊕ (PRes × (Nat × KnP))) (w : World) (h : PKnQ B w bp ans used kn false []) (ha : Rp w A c l) (has : StayQ B w A) (hnf : NF l) (hl : l.length ≤ 256) (hkn : kn.length ≤ used) (h4 : ans.length ≤ 4096)
    (hfu : Hid (full = (schS l 0).go (askSP ans) (used, kn))) :
    Calls Tryd.prog 100 #[.pointer (some ⟨bp, 0, none⟩), .slice A l.length c] w (JoinedPost B w bp ans l full) := by
  have hpq := refPreemptions_any A c l w ha (by omega)
  rw [pre_self hnf, ← remP_zero] at hpq
  have HNF := Lib.hid hnf
  clear hnf
  obtain ⟨P, hP⟩ : ∃ P, P = remP l 0 := ⟨_, rfl⟩
  rw [← hP] at hpq
  have HP := Lib.hid hP
  clear hP
  go_enter Tryd.func100, Tryd.ntmps100
  go_wp2_with fail
  refine hpq.mono ?_
  rintro e w2 ⟨A2, c2, rfl, hf2, ho2⟩
  have hfq2 : FrQ B w w2 := FrQ.of_fr0 hf2
  have hk2 := h.fr0 hf2
  have hpb := (Rd.of_own ho2).2.bound
  clear hpq hf2
  go_wp2_with fail
  go_loopw [8] (fun v wr => ∃ (i k u : Nat) (kk : KnP), v = .int .i64 i ∧ i ≤ P.length ∧ Hid (P.drop i = remP l k) ∧ Hid (full = (schS l k).go (askSP ans) (u, kk)) ∧ kk.length ≤ u ∧ PKnQ B wr bp ans u kk false [] ∧ wr.ownsRow w.heap.size 3 1 (.slice A2 P.length c2) P.length (P.map (.int .i64)) ∧ FrQ B w wr) (fun i _ => P.length - (intOf i).toNat)
  case atStart => exact ⟨0, 0, used, kn, rfl, Nat.zero_le _, by show _ = _; rw [List.drop_zero]; exact HP.out, hfu, hkn, hk2, ho2, hfq2⟩
  case round =>
    clear hk2 hfq2 ho2 hfu h hkn
    obtain ⟨i, k, u, kk, rfl, hi, hrem, hfu, hkk, hpk, ho5, hf5⟩ := hrel
    have ha5 := ha.frq has hf5
    have hs5 := has.frp hf5
    have hule := hpk.le
    by_cases hlt : i < P.length
    · obtain ⟨b7, o7, x, hA2, hx, hc7⟩ := (Rd.of_own ho5).2.at_ hlt
      subst hA2
      have hd := hrem.out
      rw [List.drop_eq_getElem_cons hlt] at hd
      obtain ⟨j, hxj, hjl, hjn, hss, hrest⟩ := rem_cons HNF.out hl _ k rfl hd.symm
      have hxe : x = (j : Int) := by
        have h1 := hx.out
        rw [List.getElem?_eq_getElem hlt] at h1
        injection h1 with h1
        rw [← h1]; exact hxj
      subst hxe
      have hjq := refJoin_any A c l j wr ha5 (by omega)
      rw [join_self HNF.out hjl hjn] at hjq
      have hm := mv_step HNF.out hjn
      have HMN := Lib.hid hm.nf
      have hml := hm.less
      have HR := Lib.hid hrest
      have HF : Hid (full = (Tr.ask (mvdOf l j) fun v => if v = 2 then schS (mvdOf l j) 0 else schS l (j + 1)).go (askSP ans) (u, kk)) := by
        show _ = _
        rw [hfu.out, hss, schS_ask HNF.out hl hjl hjn]
      clear hm hd hss hfu hrest hxj hrem hjn
      generalize mvdOf l j = mo at *
      go_wp2_with fail
      refine hjq.mono ?_
      rintro e w6 ⟨A6, c6, rfl, hf6, ho6⟩
      have hr6 : Rp w6 A6 c6 mo := (Rp.of_own ho6).2
      have hs6 : StayQ B w6 A6 := StayQ.own ho6
      have hp6 := hpk.fr0 hf6
      have hq6 := hf5.trans (FrQ.of_fr0 hf6)
      have ho7 := own_fr ho5 hf6 (by simp)
      clear hjq hpk hf5 ho5 hf6 ho6
      go_wp2_with fail
      refine (failing_any B bp ans u kk A6 c6 mo w6 hp6 hr6 hs6 (by omega)).mono ?_
      intro e w8 hpost
      unfold AskPostQ at hpost
      rcases hq : askVP ans u kk mo with _ | ⟨v, u2, kn2⟩
      · rw [hq] at hpost
        obtain ⟨rfl, hf8, hp8⟩ := hpost
        have hR : Hid (full = .inl mo) := by show _ = _; rw [HF.out, Tr.go_none (askS_noneP hq)]
        obtain ⟨_, _, _, _, _, _, _, hb8, _⟩ := hp8.ex
        have q4 := hb8.cell 4 rfl
        clear hq
        go_wp2_with fail
        go_ret2
        exact ⟨A6, c6, mo, false, rfl, hq6.trans hf8, hr6.frq hs6 hf8, hs6.frp hf8, .inr (.inl ⟨rfl, mo, u, kk, hR.out, hp8⟩)⟩
      · rw [hq] at hpost
        have hlen := askVP_len hq hkk
        have hgo : full = (if v = 2 then schS mo 0 else schS l (j + 1)).go (askSP ans) (u2, kn2) := by rw [HF.out, Tr.go_some (askS_someP hq)]
        clear hq
        by_cases hv : v = 2
        · have hb2 : (v == 2) = true := by simp [hv]
          rw [if_pos hv] at hgo
          obtain ⟨he8, hf8, hp8⟩ := hpost
          rw [hb2] at he8
          subst he8
          have HG := Lib.hid hgo
          clear hgo hv hb2
          go_wp2_with fail
          go_ret2
          exact ⟨A6, c6, mo, true, rfl, hq6.trans hf8, hr6.frq hs6 hf8, hs6.frp hf8, .inl ⟨rfl, HMN.out, hml, u2, kn2, hlen, HG.out, hp8⟩⟩
        · have hb2 : (v == 2) = false := by simpa using hv
          rw [if_neg hv] at hgo
          obtain ⟨he8, hf8, hp8⟩ := hpost
          rw [hb2] at he8
          subst he8
          have HG := Lib.hid hgo
          obtain ⟨_, _, _, _, _, _, _, hb8, _⟩ := id hp8.ex
          have q4 := hb8.cell 4 rfl
          clear hgo hv hb2
          go_wp2_with fail
          go_roundw
          case rel => exact ⟨i + 1, j + 1, u2, kn2, by go_num, by omega, HR.out, HG, hlen, hp8, own_frq ho7 hf8 (by decide), hq6.trans hf8⟩
          case measure => simp [intOf]; omega
    · have hnil : remP l k = [] := by rw [← hrem.out, List.drop_of_length_le (by omega)]
      have hR : Hid (full = .inr ((0, l), (u, kk))) := by show _ = _; rw [hfu.out, rem_nil HNF.out hl _ k rfl hnil]; rfl
      clear hnil
      go_wp2_with fail
      go_ret2
      exact ⟨A, c, l, false, rfl, hf5, ha5, hs5, .inr (.inr ⟨rfl, u, kk, hR.out, hpk⟩)⟩
end Go.Proofs.YtjpbmbonccenfaaDoor
