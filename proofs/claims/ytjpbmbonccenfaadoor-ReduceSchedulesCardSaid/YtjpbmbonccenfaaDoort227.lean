/- Texts of this seat, one behind the other: FailsP. -/
import Derived.Test.YtjpbmbonccenfaaDoort215
import Derived.Test.YtjpbmbonccenfaaDoort216
import Derived.Deep.RegionHeld
/- pickFails: a schedule is asked. -/
namespace Go.Proofs.YtjpbmbonccenfaaDoor
open Go.RowKit
set_option linter.unusedVariables false
set_option linter.unusedSimpArgs false

theorem Blk.others {w w' : World} {g : Nat} {t e : TypeId} {cs : Array Value} (hb : Blk w g t cs) (h : Lib.OthersKept e none w w') (hne : t ≠ e) : Blk w' g t cs :=
  h g _ hb (by simp) fun c fz he => by injection he with _ h2 _; exact hne h2
def PI64 (ps : List Pk) : Prop := ∀ p ∈ ps, (-9223372036854775808 ≤ p.1 ∧ p.1 ≤ 9223372036854775807) ∧ (-9223372036854775808 ≤ p.2 ∧ p.2 ≤ 9223372036854775807)

set_option maxRecDepth 20000 in
set_option maxHeartbeats 3200000 in
theorem pickFails_any (s km : Nat) (A : Option Addr) (ca : Nat) (q : List Pk) (w : World) (ha : Rp w A ca q) (hlen : q.length ≤ 100000) (hin : PI64 q) (htab : Tab w) (hs : s < w.heap.size) (hkm : km < w.heap.size) (R : Ending → World → Prop)
    (honce : ∀ (w2 : World) (A2 : Option Addr) (c2 : Nat), Fr [] w w2 → Rp w2 A2 c2 q → Nw w.heap.size A2 → Calls Tryd.prog 113 #[.pointer (some ⟨s, 0, none⟩), pkVal q, .slice A2 q.length c2] w2
      fun e w3 => (∃ v, e = .returned (.int .u8 v) ∧ Fr [s, km] w2 w3 ∧ R (.returned (.bool (v == 2))) w3) ∨ ∃ ch, e = .panicked ch ∧ R (.panicked ch) w3) :
    Calls Tryd.prog 91 #[.pointer (some ⟨s, 0, none⟩), .slice A q.length ca] w R := by
  have HON := Lib.hid honce
  clear honce
  go_enter Tryd.func91, Tryd.ntmps91
  go_wp2
  go_loopw [5, 10] (fun v i wr => ∃ k : Nat, k ≤ q.length ∧ i = .int .i64 k ∧ GathB w (pkBytes (q.take k)) v wr) (fun _ i _ => q.length - (intOf i).toNat)
  case atStart => exact ⟨0, Nat.zero_le _, rfl, GathB.start _ (by simp [pkBytes])⟩
  case round =>
    obtain ⟨k, hk, rfl, A1, c1, rfl, hown, hf⟩ := hrel
    have hsz := hf.size
    have hl1 := pkBytes_len (q.take k) fun n hn => hin n (List.mem_of_mem_take hn)
    have hl2 : (q.take k).length ≤ k := by simp; omega
    by_cases hlt : k < q.length
    · obtain ⟨b1, o1, x, y, rfl, hx, hc1, hc2⟩ := (ha.fr0 hf).at_ hlt
      obtain ⟨hxin, hyin⟩ := hin (x, y) (List.mem_of_getElem? hx.out)
      have hl3 := Lib.itoa_length_le x hxin.1 hxin.2
      have hl4 := Lib.itoa_length_le y hyin.1 hyin.2
      have hlim : (pkBytes (List.take k q)).length + 100 ≤ 140737488355328 := by omega
      have HSN : Hid (pkBytes (q.take (k + 1)) = pkBytes (q.take k) ++ Lib.itoa x ++ [58] ++ Lib.itoa y ++ [32]) := by
        show _ = _
        rw [List.take_add_one, hx.out, Option.toList_some, pkBytes_snoc]
      generalize pkBytes (q.take k) = bs at *
      clear hl1 hl2 hx
      have hbp := Blk.new wr 115 #[.int .i64 x, .int .i64 y] _ rfl
      have hown' := hown.alloc (.cells #[.int .i64 x, .int .i64 y] 115)
      have hf' : Fr [] w (wr.alloc (.cells #[.int .i64 x, .int .i64 y] 115)) := hf.alloc _
      go_wp2_with fail
      refine (Tryd.strconv_AppendInt_10 w.heap.size _ x hxin.1 hxin.2 _ _ _ hown' hf'.size (by omega) ((Lib.tabBelow_of_tabIs htab).on hf'.below)).mono ?_
      rintro e w2 ⟨v2, rfl, hown2, hb2, ho2⟩
      obtain ⟨A2, c2, rfl⟩ := own_form hown2
      have hbp2 := hbp.others ho2 (by decide)
      have hF2 : Fr [] w w2 := Fr.of_below (hf'.below.trans hb2)
      have hz2 := hF2.size
      have HOW2 := Lib.hid (hown2.alloc (.cells #[.int .u8 58] 5))
      have hbp2a := hbp2.alloc (.cells #[.int .u8 58] 5)
      clear hbp hown hown' hf hf' hb2 ho2
      go_wp2_with (at_builtin; go_loud (refine wpList_append_rd rfl (.tmp 18) (.tmp 19) _ rfl elemBytes (.slice A2 (bs.length + (Lib.itoa x).length) c2) _ rfl HOW2.out (some ⟨w2.heap.size, 0, none⟩) 1 [58] (.int .u8) rfl (Rd.one w2 5 (.int .u8) 58) one_u8 (by simp; omega) (by simp; omega) ?_; intro A3 c3 w3 hown3 hg3 hat3; have hbp3 := hbp2a.grown hg3 (fun hk => own_ne_blk HOW2.out hbp2a (by decide) wr.heap.size hk.symm rfl); have k3 := hbp3.cell 1 rfl))
      have hF3 : Fr [] w w3 := (hF2.alloc _).app HOW2.out (Nat.le_refl _) hg3
      have hz3 := hF3.size
      clear HOW2 hbp2a hbp2 hF2 hz2 hg3
      refine (Tryd.strconv_AppendInt_10 w.heap.size _ y hyin.1 hyin.2 _ _ _ hown3 hz3 (by simp; omega) ((Lib.tabBelow_of_tabIs htab).on hF3.below)).mono ?_
      rintro e w4 ⟨v4, rfl, hown4, hb4, -⟩
      obtain ⟨A4, c4, rfl⟩ := own_form hown4
      have hF4 : Fr [] w w4 := Fr.of_below (hF3.below.trans hb4)
      have hz4 := hF4.size
      have HOW4 := Lib.hid (hown4.alloc (.cells #[.int .u8 32] 5))
      clear hbp3 k3 hb4 hown4 hown3 hF3
      go_wp2_with (at_builtin; go_loud (refine wpList_append_rd rfl (.tmp 25) (.tmp 26) _ rfl elemBytes (.slice A4 (bs.length + (Lib.itoa x).length + 1 + (Lib.itoa y).length) c4) _ rfl HOW4.out (some ⟨w4.heap.size, 0, none⟩) 1 [32] (.int .u8) rfl (Rd.one w4 5 (.int .u8) 32) one_u8 (by simp; omega) (by simp; omega) ?_; intro A5 c5 w5 hown5 hg5 hat5))
      go_roundw
      case rel =>
        refine ⟨k + 1, by omega, by go_num, ?_⟩
        rw [HSN.out]
        refine GathB.snoc (hF4.alloc _) HOW4.out hg5 hown5 ?_
        simp [Lib.byteCells]
      case measure => simp [intOf]; omega
    · have hte : q.take k = q := List.take_of_length_le (by omega)
      rw [hte] at hown ⊢
      clear hl1 hl2 hte
      have hcv := run_text_own hown
      go_wp2_with fail
      refine wp_region_held_drew (S := fun w' => (convert 141 9 (.slice A1 (pkBytes q).length c1)).run Tryd.prog w' = .ok (pkVal q) w') (by kernel_rfl) (run_text_own (own_drewN hown 1)) (fun hHeld => ?_)
      refine wpAnyH_take (i := 0) (v := .pointer (some ⟨s, 0, none⟩)) rfl (by kernel_rfl) (by kernel_rfl) (by kernel_rfl) (fun _ _ _ h => h) (Or.inl ⟨by rfl, fun w hSw => ?_⟩) (by assumption) ?_
      · (try dsimp only at hSw); go_simp
      try simp only [List.getElem_toArray, List.getElem_cons_succ, List.getElem_cons_zero, Act.put, List.setIfInBounds_toArray, List.set_cons_zero, List.set_cons_succ]
      refine wpAnyH_take (i := 1) (v := .slice A1 (pkBytes q).length c1) rfl (by kernel_rfl) (by kernel_rfl) (by kernel_rfl) (fun _ _ _ h => h) (Or.inl ⟨by rfl, fun w hSw => ?_⟩) (by assumption) ?_
      · (try dsimp only at hSw); go_simp
      try simp only [List.getElem_toArray, List.getElem_cons_succ, List.getElem_cons_zero, Act.put, List.setIfInBounds_toArray, List.set_cons_zero, List.set_cons_succ]
      refine wpAnyH_take (i := 2) (v := pkVal q) rfl (by kernel_rfl) (by kernel_rfl) (by kernel_rfl) (fun _ _ _ h => h) (Or.inl ⟨by rfl, fun w hSw => ?_⟩) (by assumption) ?_
      · (try dsimp only at hSw); go_simp
      try simp only [List.getElem_toArray, List.getElem_cons_succ, List.getElem_cons_zero, Act.put, List.setIfInBounds_toArray, List.set_cons_zero, List.set_cons_succ]
      refine wpAnyH_take (i := 3) (v := .slice A q.length ca) rfl (by kernel_rfl) (by kernel_rfl) (by kernel_rfl) (fun _ _ _ h => h) (Or.inl ⟨by rfl, fun w hSw => ?_⟩) (by assumption) ?_
      · (try dsimp only at hSw); go_simp
      try simp only [List.getElem_toArray, List.getElem_cons_succ, List.getElem_cons_zero, Act.put, List.setIfInBounds_toArray, List.set_cons_zero, List.set_cons_succ]
      refine wpAnyH_ready (rs := [4]) (by kernel_rfl) (by simp) ?_
      refine AllReadyH.cons rfl (fun K hK => ?_) AllReadyH.nil
      refine step_append_pks rfl (.const (.slice none 0 0)) (.tmp 32) rfl (.slice none 0 0) [] rfl (World.ownsRow_nil _ wr.heap.size _ 2) A ca q rfl ((ha.fr0 hf).drewN 1) (by omega) (Nat.le_refl _) ?_
      intro A7 c7 w7 hown7 hg7 hat7
      have hf7 : Fr [] wr w7 := (((Fr.refl [] wr).drewN 1)).grown hg7 (by simp [Value.ownBlock])
      simp only [Nat.zero_add, List.nil_append] at hown7
      have hF7 := hf.trans hf7
      refine hK.out _ _ (run_text_own (own_fr hown hf7 (by simp))) (fun hHeld2 => ?_)
      clear hK K
      try simp only [List.getElem_toArray, List.getElem_cons_succ, List.getElem_cons_zero, Act.put, List.setIfInBounds_toArray, List.set_cons_zero, List.set_cons_succ]
      refine wpAnyH_ready (rs := [5]) (by kernel_rfl) (by simp) ?_
      refine AllReadyH.cons rfl (fun K hK => ?_) AllReadyH.nil
      go_simp
      refine (HON.out w7 A7 c7 hF7 (Rp.of_own hown7).2 ((Nw.own hown7).mono hf.size)).mono ?_
      rintro e w8 (⟨v, rfl, hf8, hR⟩ | ⟨ch, rfl, hR⟩)
      · refine hK.out _ _ (run_text_own (own_fr (own_fr hown hf7 (by simp)) hf8 (fun k hk => by have := (hown.lt k hk).1; simp; omega))) (fun hHeld3 => ?_)
        clear hK K hHeld hHeld2
        try simp only [List.getElem_toArray, List.getElem_cons_succ, List.getElem_cons_zero, Act.put, List.setIfInBounds_toArray, List.set_cons_zero, List.set_cons_succ]
        refine wpAnyH_take (i := 6) (v := .bool (v == 2)) rfl (by kernel_rfl) (by kernel_rfl) (by kernel_rfl) (fun _ _ _ h => h) (Or.inl ⟨by rfl, fun w hSw => ?_⟩) (by assumption) ?_
        · (try dsimp only at hSw); go_simp
        try simp only [List.getElem_toArray, List.getElem_cons_succ, List.getElem_cons_zero, Act.put, List.setIfInBounds_toArray, List.set_cons_zero, List.set_cons_succ]
        refine wpAnyH_take (i := 7) (v := .bool (v == 2)) rfl (by kernel_rfl) (by kernel_rfl) (by kernel_rfl) (fun _ _ _ h => h) (Or.inl ⟨by rfl, fun w hSw => ?_⟩) (by assumption) ?_
        · (try dsimp only at hSw); go_simp
        try simp only [List.getElem_toArray, List.getElem_cons_succ, List.getElem_cons_zero, Act.put, List.setIfInBounds_toArray, List.set_cons_zero, List.set_cons_succ]
        refine wpAnyH_done (by kernel_rfl) ?_ _
        go_wp2
        exact hR
      · exact ⟨rfl, hR⟩
/-- A schedule that was asked, or whose answer is at hand. -/
def FailsGotP (w : World) (s km : Nat) (ans : List Int) (b : Bool) (used : Nat) (kn : KnP) (e : Ending) (w' : World) : Prop :=
  e = .returned (.bool b) ∧ Fr [s, km] w w' ∧ SKP w' s km ans used kn
def AsksP (w : World) (q : List Pk) (e : Ending) (w' : World) : Prop :=
  ∃ A c, e = .panicked [questionP (.slice A q.length c)] ∧ Rp w' A c q ∧ Fr [] w w' ∧ Nw w.heap.size A
theorem SKP.lt {w : World} {s km used : Nat} {ans : List Int} {kn : KnP} (h : SKP w s km ans used kn) : s < w.heap.size ∧ km < w.heap.size := by
  obtain ⟨A, c, hb, _⟩ := h.srch.ex
  exact ⟨hb.lt, h.map.lt⟩
theorem pf_got (s km : Nat) (ans : List Int) (used : Nat) (kn : KnP) (A : Option Addr) (ca : Nat) (q : List Pk) (w : World) (h : SKP w s km ans used kn) (ha : Rp w A ca q) (hlen : q.length ≤ 100000) (hin : PI64 q) (htab : Tab w)
    {v : Int} {u : Nat} {kn' : KnP} (hv : askVP ans used kn q = some (v, u, kn')) :
    Calls Tryd.prog 91 #[.pointer (some ⟨s, 0, none⟩), .slice A q.length ca] w (FailsGotP w s km ans (v == 2) u kn') :=
  pickFails_any s km A ca q w ha hlen hin htab h.lt.1 h.lt.2 _ fun w2 A2 c2 hf hr hn => (once_gotP s km ans used kn q _ w2 (h.fr0 hf) hv).mono fun e w3 ⟨he, hf3, hs3⟩ => .inl ⟨v, he, hf3, rfl, (hf.mono (by simp)).trans hf3, hs3⟩
theorem pf_ask (s km : Nat) (ans : List Int) (used : Nat) (kn : KnP) (A : Option Addr) (ca : Nat) (q : List Pk) (w : World) (h : SKP w s km ans used kn) (ha : Rp w A ca q) (hlen : q.length ≤ 100000) (hin : PI64 q) (htab : Tab w)
    (hv : askVP ans used kn q = none) :
    Calls Tryd.prog 91 #[.pointer (some ⟨s, 0, none⟩), .slice A q.length ca] w (AsksP w q) :=
  pickFails_any s km A ca q w ha hlen hin htab h.lt.1 h.lt.2 _ fun w2 A2 c2 hf hr hn => (once_askP s km ans used kn q A2 q.length c2 w2 (h.fr0 hf) hv).mono fun e w3 ⟨he, n, hw⟩ => .inr ⟨_, he, A2, c2, rfl, by rw [hw]; exact hr.drewN n, by rw [hw]; exact hf.drewN n, hn⟩
end Go.Proofs.YtjpbmbonccenfaaDoor
