/- ancestors of the program. -/
import Derived.Test.YtjpbmbonccenfaaHist
namespace Go.Proofs.Ytjpbmbonccenfaa
open Go.RowKit
set_option linter.unusedVariables false

/-- The boolean array in its block. -/
def BolAt (w : World) (B : Nat) (bs : List Bool) : Prop := Blk w B 4 (bs.map Value.bool).toArray
theorem BolAt.set_ {w : World} {B : Nat} {bs : List Bool} (h : BolAt w B bs) (j : Nat) (b : Bool) : BolAt (w.setCell ⟨B, j, none⟩ (.bool b)) B (bs.set j b) := Blk.setB h j b
theorem BolAt.cell {w : World} {B : Nat} {bs : List Bool} (h : BolAt w B bs) {j : Nat} {b : Bool} (hj : bs[j]? = some b) : w.cell? ⟨B, j, none⟩ = some (.bool b) ∧ w.frozen? ⟨B, j, none⟩ = false :=
  ⟨Blk.cell h j (by simp [hj]), Blk.frozen h j⟩

theorem ancUp_yes {P : List (List Int)} {x : Nat} {bs : List Bool} {l : List Int} (hb : bs[x]? = some true) (hl : P[x]? = some l) : ancUp P (x + 1) bs = ancUp P x (setAll bs l) := by
  rw [ancUp, if_pos (by simp [hb])]
  simp [hl]
theorem ancUp_no {P : List (List Int)} {x : Nat} {bs : List Bool} (hb : bs[x]? = some false) : ancUp P (x + 1) bs = ancUp P x bs := by
  rw [ancUp, if_neg (by simp [hb])]

set_option maxRecDepth 100000 in
set_option maxHeartbeats 3200000 in
theorem ancestors_any (A : Option Addr) (c : Nat) (P : List (List Int)) (v : Nat) (w : World) (ha : Rss w A c P) (hP : ValH P) (hv : v < P.length) :
    Calls Try.prog 59 #[.agg #[.slice A P.length c], .int .i64 (v : Nat)] w (RetN w 3 (ancOf P [(v : Int)])) := by
  have HP := Lib.hid hP
  have hn : P.length ≤ 256 := hP.1
  clear hP
  have hvl : v < v + 1 := by omega
  have hv0 : (0 : Int) ≤ (v : Int) := by omega
  go_enter Try.func59, Try.ntmps59
  go_wp2_with (at_make; refine wpList_makeN rfl _ _ _ rfl elemBools2 rfl (v + 1) rfl rfl (by omega) ?_; intro w0 hown0 hg0; have hsz : (w.alloc (.cells #[.slice A P.length c] 57)).heap.size = w.heap.size + 1 := (by simp); rw [hsz] at hown0; clear hsz; have hbl0 := own_blk hown0 (by omega); rw [← List.map_replicate] at hbl0; have k0 := hbl0.cell v (u := .bool false) (by simp); have k1 := hbl0.frozen v)
  have hf0 : Fr [] w w0 := ((Fr.refl _ _).alloc _).grown hg0 (by simp)
  have hbh : Blk w0 w.heap.size 57 #[.slice A P.length c] := (Blk.new w _ _ _ rfl).grown hg0 (by simp)
  have hb1 : BolAt (w0.setCell ⟨w.heap.size + 1, v, none⟩ (.bool true)) (w.heap.size + 1) ((List.replicate (v + 1) false).set v true) := BolAt.set_ (bs := List.replicate (v + 1) false) hbl0 v true
  have hf1 : Fr [] w (w0.setCell ⟨w.heap.size + 1, v, none⟩ (.bool true)) := hf0.setCell (p := ⟨w.heap.size + 1, v, none⟩) (.inr (by simp)) _
  have hbh1 := hbh.far (p := ⟨w.heap.size + 1, v, none⟩) (by simp) (.bool true)
  have hfull : Hid (pickedOf (ancUp P (v + 1) ((List.replicate (v + 1) false).set v true)) = ancOf P [(v : Int)]) := anc_prog HP.out hv
  have hlen0 : ((List.replicate (v + 1) false).set v true).length = v + 1 := by simp
  clear hbl0 k0 k1 hown0 hg0 hf0 hbh
  generalize (List.replicate (v + 1) false).set v true = bs0 at *
  generalize w0.setCell ⟨w.heap.size + 1, v, none⟩ (.bool true) = w1 at *
  go_loopw [6, 7] (fun nv xv wr => ∃ (x m : Nat) (bs : List Bool), nv = .int .i64 m ∧ xv = .int .i64 ((x : Int) - 1) ∧ x + m ≤ v + 1 ∧ bs.length = v + 1 ∧ BolAt wr (w.heap.size + 1) bs ∧ Blk wr w.heap.size 57 #[.slice A P.length c] ∧ Hid (pickedOf (ancUp P x bs) = ancOf P [(v : Int)]) ∧ Fr [] w wr) (fun _ x _ => (intOf x + 1).toNat)
  case atStart => exact ⟨v + 1, 0, bs0, rfl, by go_num, by omega, hlen0, hb1, hbh1, hfull, hf1⟩
  case round =>
    clear hb1 hbh1 hfull hf1 hlen0
    obtain ⟨x, m, bs, rfl, rfl, hxm, hbl, hbb, hbh, hfu, hf⟩ := hrel
    cases x with
    | zero =>
      have hrb := Rd.of_blk hbb (by unfold maxLen; omega)
      rw [hbl] at hrb
      have hpf : Hid (pickUpto bs bs.length = ancOf P [(v : Int)]) := hfu.out
      go_wp2_with (at_make; refine wpList_make0 rfl _ _ _ rfl elemInts m rfl rfl (by omega) ?_; intro w3 hown3 hg3)
      have hr3 : Rd wr .bool (some ⟨w.heap.size + 1, 0, none⟩) (v + 1) bs := hrb
      go_loopw [10, 49] (fun vv i w4 => ∃ k : Nat, k ≤ bs.length ∧ i = .int .i64 k ∧ GathN wr 3 (pickUpto bs k) vv w4) (fun _ i _ => bs.length - (intOf i).toNat)
      case atStart => exact ⟨0, Nat.zero_le _, rfl, GathN.made (Fr.refl _ _) hown3 hg3 (by simp [pickUpto])⟩
      case round =>
        clear hown3 hg3
        obtain ⟨k, hk, rfl, A1, c1, rfl, hown, hf4⟩ := hrel
        have hpl := pick_le bs k
        by_cases hlt : k < bs.length
        · obtain ⟨b1, o1, y, hA, hx, hc1⟩ := (hr3.fr0 hf4).at_ hlt
          injection hA with hA
          injection hA with e1 e2
          subst e1 e2
          rw [Nat.zero_add] at hc1
          have hlt' : k < v + 1 := by omega
          cases y
          · go_wp2
            go_roundw
            case rel => exact ⟨k + 1, by omega, by go_num, GathN.same hf4 hown (by rw [pick_no hx])⟩
            case measure => simp [intOf]; omega
          · go_wp2_with (at_builtin; refine wpList_append_rd rfl (.tmp 55) (.tmp 57) _ rfl elemInts (.slice A1 (pickUpto bs k).length c1) _ rfl (hown.alloc _) _ _ [(k : Int)] (.int .i64) rfl (Rd.one _ _ _ _) one_i64 (by simp; omega) (by simp; have := hf4.size; omega) ?_; intro A2 c2 w2 hown2 hg2 hat2)
            go_roundw
            case rel => exact ⟨k + 1, by omega, by go_num, GathN.snoc (hf4.alloc _) (hown.alloc _) hg2 hown2 (by rw [pick_yes hx]; simp)⟩
            case measure => simp [intOf]; omega
        · have hke : k = bs.length := by omega
          have hge : v + 1 ≤ k := by omega
          go_wp2
          go_ret
          have := GathN.ret (zs := ancOf P [(v : Int)]) hf4 hown (by rw [← hpf.out, hke])
          obtain ⟨A9, c9, e9, hf9, hown9⟩ := this
          exact ⟨A9, c9, e9, hf.trans hf9, own_base hown9 hf.size⟩
    | succ x =>
      have hx0 : (0 : Int) ≤ (x : Int) := by omega
      have hxv : x < v + 1 := by omega
      obtain ⟨b, hb⟩ : ∃ b, bs[x]? = some b := ⟨_, List.getElem?_eq_getElem (by omega)⟩
      obtain ⟨k0, k1⟩ := hbb.cell hb
      rw [show ((x + 1 : Nat) : Int) - 1 = x by omega]
      cases b
      · have hfu' : Hid (pickedOf (ancUp P x bs) = ancOf P [(v : Int)]) := by show _ = _; rw [← hfu.out, ancUp_no hb]
        clear hb hfu
        go_wp2_with fail
        go_roundw
        case rel => exact ⟨x, m, bs, rfl, rfl, by omega, hbl, hbb, hbh, hfu', hf⟩
        case measure => simp [intOf]
      · obtain ⟨b1, o1, l, A1, c1, rfl, hl, hc1, hr1⟩ := ha.at_ (k := x) (by omega)
        have hls := HP.out.2 x l hl.out
        have hlr : Hid (InR (v + 1) l) := fun z hz => by
          have := (isSet_iff.1 hls).1 z hz
          omega
        have hll := (set_inR hls).2
        have hfu' : Hid (pickedOf (ancUp P x (setAll bs l)) = ancOf P [(v : Int)]) := by show _ = _; rw [← hfu.out, ancUp_yes hb hl.out]
        have hc1' := hf.cell hc1 (by simp)
        have q0 := hbh.cell 0 rfl
        have hlb := hr1.bound
        clear hb hfu hls
        go_wp2_with fail
        go_loopw [37] (fun jv wr' => ∃ (j : Nat) (bs' : List Bool), j ≤ l.length ∧ jv = .int .i64 j ∧ Hid (bs' = setAll bs (l.take j)) ∧ bs'.length = v + 1 ∧ BolAt wr' (w.heap.size + 1) bs' ∧ Blk wr' w.heap.size 57 #[.slice (some ⟨b1, o1, none⟩) P.length c] ∧ Fr [] w wr') (fun j _ => l.length - (intOf j).toNat)
        case atStart => exact ⟨0, bs, Nat.zero_le _, rfl, by show _ = _; simp [setAll], hbl, hbb, hbh, hf⟩
        case round =>
          clear hbb hbh hf k0 k1 hc1' q0
          obtain ⟨j, bs', hj, rfl, hbs', hbl', hbb, hbh, hf⟩ := hrel
          by_cases hltj : j < l.length
          · obtain ⟨b2, o2, y, rfl, hy, hc2⟩ := (hr1.fr0 hf).at_ hltj
            have hyr := hlr.out y (List.mem_of_getElem? hy.out)
            obtain ⟨yn, rfl⟩ : ∃ yn : Nat, y = yn := ⟨y.toNat, by omega⟩
            have hyl : yn < v + 1 := by omega
            obtain ⟨bb, hbb2⟩ : ∃ b, bs'[yn]? = some b := ⟨_, List.getElem?_eq_getElem (by omega)⟩
            obtain ⟨k2, k3⟩ := hbb.cell hbb2
            have hsn : Hid (bs'.set yn true = setAll bs (l.take (j + 1))) := by show _ = _; rw [setAll_snoc hy, ← hbs'.out]; rfl
            clear hbb2
            go_wp2_with fail
            go_roundw
            case rel => exact ⟨j + 1, bs'.set yn true, by omega, by go_num, hsn, by simpa using hbl', hbb.set_ yn true, hbh.far (p := ⟨w.heap.size + 1, yn, none⟩) (by simp) _, hf.setCell (p := ⟨w.heap.size + 1, yn, none⟩) (.inr (by simp)) _⟩
            case measure => simp [intOf]; omega
          · have hje : j = l.length := by omega
            have hfin : Hid (pickedOf (ancUp P x bs') = ancOf P [(v : Int)]) := by
              show _ = _
              rw [← hfu'.out, hbs'.out, List.take_of_length_le (by omega)]
            clear hbs'
            go_wp2_with fail
            go_roundw
            case rel => exact ⟨x, m + 1, bs', by go_num, rfl, by omega, hbl', hbb, hbh, hfin, hf⟩
            case measure => simp [intOf]
end Go.Proofs.Ytjpbmbonccenfaa
