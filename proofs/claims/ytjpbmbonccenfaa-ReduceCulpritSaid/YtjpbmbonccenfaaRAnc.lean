/- ancestors of the reference. -/
import Derived.Test.YtjpbmbonccenfaaAnc
namespace Go.Proofs.Ytjpbmbonccenfaa
open Go.RowKit
set_option linter.unusedVariables false

theorem set_keep {bs : List Bool} {x y : Nat} (h : bs[x]? = some true) : (bs.set y true)[x]? = some true := by
  by_cases e : y = x
  · subst e
    rw [List.getElem?_set_self (List.getElem?_eq_some_iff.1 h).1]
  · rw [List.getElem?_set_ne e]; exact h

set_option maxRecDepth 100000 in
set_option maxHeartbeats 3200000 in
theorem refancestors_any (A B : Option Addr) (c d : Nat) (P : List (List Int)) (S : List Int) (w : World) (ha : Rss w A c P) (hb : Rd w (.int .i64) B d S) (hP : ValH P) (hS : InR P.length S) (h0 : 0 < P.length) :
    Calls Try.prog 58 #[.agg #[.slice A P.length c], .slice B S.length d] w (RetN w 3 (ancOf P S)) := by
  have HP := Lib.hid hP
  have HS := Lib.hid hS
  have hn : P.length ≤ 256 := hP.1
  have hbb := hb.bound
  clear hP hS
  go_enter Try.func58, Try.ntmps58
  go_wp2_with (at_make; refine wpList_makeN rfl _ _ _ rfl elemBools2 rfl P.length rfl rfl (by omega) ?_; intro w0 hown0 hg0; have hsz : (w.alloc (.cells #[.slice A P.length c] 57)).heap.size = w.heap.size + 1 := (by simp); rw [hsz] at hown0; clear hsz; have hbl0 := own_blk hown0 (by omega); rw [← List.map_replicate] at hbl0)
  have hf0 : Fr [] w w0 := ((Fr.refl _ _).alloc _).grown hg0 (by simp)
  have hbh0 : Blk w0 w.heap.size 57 #[.slice A P.length c] := (Blk.new w _ _ _ rfl).grown hg0 (by simp)
  have hb0 : BolAt w0 (w.heap.size + 1) (List.replicate P.length false) := hbl0
  clear hown0 hg0 hbl0
  generalize hbs0 : List.replicate P.length false = bs0 at *
  have hlen0 : bs0.length = P.length := by rw [← hbs0]; simp
  have hfull0 : Hid (pickedOf (ancUp P P.length (setAll bs0 S)) = ancOf P S) := by show _ = _; rw [← hbs0]; rfl
  clear hbs0
  go_loopw [6] (fun jv wr' => ∃ (j : Nat) (bs' : List Bool), j ≤ S.length ∧ jv = .int .i64 j ∧ Hid (bs' = setAll bs0 (S.take j)) ∧ bs'.length = P.length ∧ BolAt wr' (w.heap.size + 1) bs' ∧ Blk wr' w.heap.size 57 #[.slice A P.length c] ∧ Fr [] w wr') (fun j _ => S.length - (intOf j).toNat)
  case atStart => exact ⟨0, bs0, Nat.zero_le _, rfl, by show _ = _; simp [setAll], hlen0, hb0, hbh0, hf0⟩
  case round =>
    clear hb0 hbh0 hf0
    obtain ⟨j, bs', hj, rfl, hbs', hbl', hbo, hbh, hf⟩ := hrel
    by_cases hltj : j < S.length
    · obtain ⟨b2, o2, y, rfl, hy, hc2⟩ := (hb.fr0 hf).at_ hltj
      have hyr := HS.out y (List.mem_of_getElem? hy.out)
      obtain ⟨yn, rfl⟩ : ∃ yn : Nat, y = yn := ⟨y.toNat, by omega⟩
      have hyl : yn < P.length := by omega
      obtain ⟨bb, hbb2⟩ : ∃ b, bs'[yn]? = some b := ⟨_, List.getElem?_eq_getElem (by omega)⟩
      obtain ⟨k2, k3⟩ := hbo.cell hbb2
      have hsn : Hid (bs'.set yn true = setAll bs0 (S.take (j + 1))) := by show _ = _; rw [setAll_snoc hy, ← hbs'.out]; rfl
      clear hbb2
      go_wp2_with fail
      go_roundw
      case rel => exact ⟨j + 1, bs'.set yn true, by omega, by go_num, hsn, by simpa using hbl', hbo.set_ yn true, hbh.far (p := ⟨w.heap.size + 1, yn, none⟩) (by simp) _, hf.setCell (p := ⟨w.heap.size + 1, yn, none⟩) (.inr (by simp)) _⟩
      case measure => simp [intOf]; omega
    · have hfull1 : Hid (pickedOf (ancUp P P.length bs') = ancOf P S) := by
        show _ = _
        rw [← hfull0.out, hbs'.out, List.take_of_length_le (by omega)]
      clear hbs' hfull0 hlen0
      have hI := And.intro hbo (And.intro hbh hf)
      have hbl1 := hbl'
      generalize bs' = bs1 at hI hbl1 hfull1 hbo hbl'
      go_wp2_with fail
      clear hltj
      go_loopw [7] (fun xv wr => ∃ (x : Nat) (bs : List Bool), xv = .int .i64 ((x : Int) - 1) ∧ x ≤ P.length ∧ bs.length = P.length ∧ BolAt wr (w.heap.size + 1) bs ∧ Blk wr w.heap.size 57 #[.slice A P.length c] ∧ Hid (pickedOf (ancUp P x bs) = ancOf P S) ∧ Fr [] w wr) (fun x _ => (intOf x + 1).toNat)
      case atStart => exact ⟨P.length, bs1, rfl, Nat.le_refl _, hbl1, hI.1, hI.2.1, hfull1, hI.2.2⟩
      case round =>
        clear hI hbl1 hfull1 hbo hbl' hbh hf
        obtain ⟨x, bs, rfl, hxm, hbl, hbo, hbh, hfu, hf⟩ := hrel
        cases x with
        | zero =>
          have hrb := Rd.of_blk hbo (by unfold maxLen; omega)
          rw [hbl] at hrb
          have hpf : Hid (pickUpto bs bs.length = ancOf P S) := hfu.out
          clear hfu hbo hbh
          go_wp2_with fail
          have hr3 : Rd wr .bool (some ⟨w.heap.size + 1, 0, none⟩) P.length bs := hrb
          go_loopw [9, 10] (fun vv i w4 => ∃ k : Nat, k ≤ bs.length ∧ i = .int .i64 k ∧ GathN wr 3 (pickUpto bs k) vv w4) (fun _ i _ => bs.length - (intOf i).toNat)
          case atStart => exact ⟨0, Nat.zero_le _, rfl, GathN.start _ _ (by simp [pickUpto])⟩
          case round =>
            obtain ⟨k, hk, rfl, A1, c1, rfl, hown, hf4⟩ := hrel
            have hpl := pick_le bs k
            by_cases hlt : k < bs.length
            · obtain ⟨b1, o1, y, hA, hx, hc1⟩ := (hr3.fr0 hf4).at_ hlt
              injection hA with hA
              injection hA with e1 e2
              subst e1 e2
              rw [Nat.zero_add] at hc1
              have hlt' : k < P.length := by omega
              cases y
              · go_wp2
                go_roundw
                case rel => exact ⟨k + 1, by omega, by go_num, GathN.same hf4 hown (by rw [pick_no hx])⟩
                case measure => simp [intOf]; omega
              · go_wp2_with (at_builtin; refine wpList_append_rd rfl (.tmp 70) (.tmp 72) _ rfl elemInts (.slice A1 (pickUpto bs k).length c1) _ rfl (hown.alloc _) _ _ [(k : Int)] (.int .i64) rfl (Rd.one _ _ _ _) one_i64 (by simp; omega) (by simp; have := hf4.size; omega) ?_; intro A2 c2 w2 hown2 hg2 hat2)
                go_roundw
                case rel => exact ⟨k + 1, by omega, by go_num, GathN.snoc (hf4.alloc _) (hown.alloc _) hg2 hown2 (by rw [pick_yes hx]; simp)⟩
                case measure => simp [intOf]; omega
            · have hke : k = bs.length := by omega
              have hge : P.length ≤ k := by omega
              go_wp2
              go_ret
              have := GathN.ret (zs := ancOf P S) hf4 hown (by rw [← hpf.out, hke])
              obtain ⟨A9, c9, e9, hf9, hown9⟩ := this
              exact ⟨A9, c9, e9, hf.trans hf9, own_base hown9 hf.size⟩
        | succ x =>
          have hx0 : (0 : Int) ≤ (x : Int) := by omega
          have hxv : x < P.length := by omega
          obtain ⟨b, hbx⟩ : ∃ b, bs[x]? = some b := ⟨_, List.getElem?_eq_getElem (by omega)⟩
          obtain ⟨k0, k1⟩ := hbo.cell hbx
          rw [show ((x + 1 : Nat) : Int) - 1 = x by omega]
          obtain ⟨b1, o1, l, A1, c1, rfl, hl, hc1, hr1⟩ := ha.at_ hxv
          have hls := HP.out.2 x l hl.out
          have hlr : Hid (InR P.length l) := fun z hz => by
            have := (isSet_iff.1 hls).1 z hz
            omega
          have hll := (set_inR hls).2
          have hc1' := hf.cell hc1 (by simp)
          have q0 := hbh.cell 0 rfl
          have hlb := hr1.bound
          cases b
          · have hfu' : Hid (pickedOf (ancUp P x bs) = ancOf P S) := by show _ = _; rw [← hfu.out, ancUp_no hbx]
            clear hbx hfu hls
            go_wp2_with fail
            go_loopw [8] (fun jv wr' => jv = .int .i64 0 ∧ wr' = wr) (fun _ _ => 0)
            case atStart => exact ⟨rfl, rfl⟩
            case round =>
              obtain ⟨rfl, rfl⟩ := hrel
              go_wp2_with fail
              all_goals
                go_roundw
                case rel => exact ⟨x, bs, rfl, by omega, hbl, hbo, hbh, hfu', hf⟩
                case measure => simp [intOf]
          · have hfu' : Hid (pickedOf (ancUp P x (setAll bs l)) = ancOf P S) := by show _ = _; rw [← hfu.out, ancUp_yes hbx hl.out]
            have HBX := Lib.hid hbx
            clear hbx hfu hls
            go_wp2_with fail
            go_loopw [8] (fun jv wr' => ∃ (j : Nat) (bs' : List Bool), j ≤ l.length ∧ jv = .int .i64 j ∧ Hid (bs' = setAll bs (l.take j)) ∧ bs'.length = P.length ∧ bs'[x]? = some true ∧ BolAt wr' (w.heap.size + 1) bs' ∧ Blk wr' w.heap.size 57 #[.slice (some ⟨b1, o1, none⟩) P.length c] ∧ Fr [] w wr') (fun j _ => l.length - (intOf j).toNat)
            case atStart => exact ⟨0, bs, Nat.zero_le _, rfl, by show _ = _; simp [setAll], hbl, HBX.out, hbo, hbh, hf⟩
            case round =>
              clear hbo hbh hf k0 k1 hc1' q0
              obtain ⟨j, bs', hj, rfl, hbs', hbl', hbx, hbo, hbh, hf⟩ := hrel
              obtain ⟨k0, k1⟩ := hbo.cell hbx
              have HBX2 := Lib.hid hbx
              have hc1' := hf.cell hc1 (by simp)
              have q0 := hbh.cell 0 rfl
              clear hbx
              by_cases hltj : j < l.length
              · obtain ⟨b2, o2, y, rfl, hy, hc2⟩ := (hr1.fr0 hf).at_ hltj
                have hyr := hlr.out y (List.mem_of_getElem? hy.out)
                obtain ⟨yn, rfl⟩ : ∃ yn : Nat, y = yn := ⟨y.toNat, by omega⟩
                have hyl : yn < P.length := by omega
                obtain ⟨bb, hbb2⟩ : ∃ b, bs'[yn]? = some b := ⟨_, List.getElem?_eq_getElem (by omega)⟩
                obtain ⟨k2, k3⟩ := hbo.cell hbb2
                have hsn : Hid (bs'.set yn true = setAll bs (l.take (j + 1))) := by show _ = _; rw [setAll_snoc hy, ← hbs'.out]; rfl
                clear hbb2
                go_wp2_with fail
                go_roundw
                case rel => exact ⟨j + 1, bs'.set yn true, by omega, by go_num, hsn, by simpa using hbl', set_keep HBX2.out, hbo.set_ yn true, hbh.far (p := ⟨w.heap.size + 1, yn, none⟩) (by simp) _, hf.setCell (p := ⟨w.heap.size + 1, yn, none⟩) (.inr (by simp)) _⟩
                case measure => simp [intOf]; omega
              · have hfin : Hid (pickedOf (ancUp P x bs') = ancOf P S) := by
                  show _ = _
                  rw [← hfu'.out, hbs'.out, List.take_of_length_le (by omega)]
                clear hbs'
                go_wp2_with fail
                go_roundw
                case rel => exact ⟨x, bs', rfl, by omega, hbl', hbo, hbh, hfin, hf⟩
                case measure => simp [intOf]
end Go.Proofs.Ytjpbmbonccenfaa
