/- Texts of this seat, one behind the other: SayP. -/
import Derived.Test.YtjpbmbonccenfaaDoort126
import Derived.Test.YtjpbmbonccenfaaDoort120
import Derived.Test.YtjpbmbonccenfaaDoort127
import Derived.Test.YtjpbmbonccenfaaDoort122
/- What an oracle says about a schedule. -/
namespace Go.Proofs.YtjpbmbonccenfaaDoor
open Go.RowKit
set_option linter.unusedVariables false

/-- The numbers 8 * a + b of the neighbours a, b. -/
def edgesOf (l : List Pk) : List Int := (List.range (l.length - 1)).map fun j => 8 * (l.getD j (0, 0)).1 + (l.getD (j + 1) (0, 0)).1
theorem edges_len (l : List Pk) : (edgesOf l).length = l.length - 1 := by simp [edgesOf]
def edgeSet (l : List Pk) : List Int := pickedOf (setAll (List.replicate 64 false) (edgesOf l))
def sayP (o : Orc) (l : List Pk) : Int :=
  if mixedOf (IntKind.u64.wrap (o.salt + l.length)) (edgeSet l) / 1048576 % 256 < o.loose then 1 + mixedOf (IntKind.u64.wrap (o.salt + l.length)) (edgeSet l) / 1048576 / 256 % 3
  else if contB (edgeSet l) o.need = true ∧ contB (edgeSet l) o.bar = false then 2 else 1
theorem sayP_in (o : Orc) (l : List Pk) : sayP o l = 1 ∨ sayP o l = 2 ∨ sayP o l = 3 := by
  unfold sayP
  have h := (mixedOf_in (IntKind.u64.wrap (o.salt + l.length)) (edgeSet l)).1
  generalize mixedOf (IntKind.u64.wrap (o.salt + l.length)) (edgeSet l) = m at *
  by_cases h1 : m / 1048576 % 256 < o.loose
  · rw [if_pos h1]
    omega
  · rw [if_neg h1]
    by_cases h2 : contB (edgeSet l) o.need = true ∧ contB (edgeSet l) o.bar = false
    · rw [if_pos h2]; omega
    · rw [if_neg h2]; omega
theorem sayP_told (o : Orc) (l : List Pk) : told (sayP o l) = sayP o l := by
  rcases sayP_in o l with h | h | h <;> rw [h] <;> rfl

set_option maxRecDepth 100000 in
set_option maxHeartbeats 3200000 in
theorem SayPicks_any (v : Value) (o : Orc) (A : Option Addr) (c : Nat) (l : List Pk) (w : World) (ho : OrcIs w v o) (ha : Rp w A c l) (hg : greatO o = false) (hnf : NF l) :
    Calls Tryd.prog 36 #[v, .slice A l.length c] w (RetV w (.int .u8 (sayP o l))) := by
  obtain ⟨hl1, hl2⟩ := great_len hg
  obtain ⟨N, n, B, b, rfl, hN, hB, hs, hlo⟩ := ho
  have HL1 := Lib.hid hl1
  have HL2 := Lib.hid hl2
  clear hl1 hl2 hg
  have hbd := ha.bound
  have hSay : Hid (sayP o l = if mixedOf (IntKind.u64.wrap (o.salt + l.length)) (edgeSet l) / 1048576 % 256 < o.loose then 1 + mixedOf (IntKind.u64.wrap (o.salt + l.length)) (edgeSet l) / 1048576 / 256 % 3 else if contB (edgeSet l) o.need = true ∧ contB (edgeSet l) o.bar = false then 2 else 1) := rfl
  have HNF := Lib.hid hnf
  have hEl := edges_len l
  go_enter Tryd.func36, Tryd.ntmps36
  go_wp2_with (at_make; refine wpList_makeN rfl _ _ _ rfl elemBools2 rfl 64 rfl rfl (by omega) ?_; intro w0 hown0 hg0; have hsz : (w.alloc (.cells #[.slice N o.need.length n, .slice B o.bar.length b, .int .u64 o.salt, .int .u8 o.loose] 30)).heap.size = w.heap.size + 1 := (by simp); rw [hsz] at hown0; clear hsz; have hbl0 := own_blk hown0 (by omega); rw [← List.map_replicate] at hbl0)
  have hf0 : Fr [] w w0 := ((Fr.refl _ _).alloc _).grown hg0 (by simp)
  have hbh0 : Blk w0 w.heap.size 30 #[.slice N o.need.length n, .slice B o.bar.length b, .int .u64 o.salt, .int .u8 o.loose] := (Blk.new w _ _ _ rfl).grown hg0 (by simp)
  have hb0 : BolAt w0 (w.heap.size + 1) (List.replicate 64 false) := hbl0
  clear hown0 hg0 hbl0
  generalize hbs0 : List.replicate 64 false = bs0 at *
  have hlen0 : bs0.length = 64 := by rw [← hbs0]; simp
  have hfull0 : Hid (pickedOf (setAll bs0 (edgesOf l)) = edgeSet l) := by show _ = _; rw [← hbs0]; rfl
  clear hbs0
  generalize hE : edgesOf l = E at *
  have hEat : Hid (∀ k : Nat, k + 1 < l.length → E[k]? = some (8 * (l.getD k (0, 0)).1 + (l.getD (k + 1) (0, 0)).1)) := fun k hk => by
    rw [← hE]
    unfold edgesOf
    rw [List.getElem?_map, List.getElem?_range (by omega)]
    rfl
  clear hE
  go_loopw [6] (fun jv wr' => ∃ (j : Nat) (bs' : List Bool), j ≤ E.length ∧ jv = .int .i64 ((j : Int) + 1) ∧ Hid (bs' = setAll bs0 (E.take j)) ∧ bs'.length = 64 ∧ BolAt wr' (w.heap.size + 1) bs' ∧ Blk wr' w.heap.size 30 #[.slice N o.need.length n, .slice B o.bar.length b, .int .u64 o.salt, .int .u8 o.loose] ∧ Fr [] w wr') (fun j _ => l.length + 1 - (intOf j).toNat)
  case atStart => exact ⟨0, bs0, Nat.zero_le _, rfl, by show _ = _; simp [setAll], hlen0, hb0, hbh0, hf0⟩
  case round =>
    clear hb0 hbh0 hf0
    obtain ⟨j, bs', hj, rfl, hbs', hbl', hbo, hbh, hf⟩ := hrel
    by_cases hltj : j + 1 < l.length
    · obtain ⟨b1, o1, x, y, hA, hx, hc1, _⟩ := (ha.fr0 hf).at_ (show j < l.length by omega)
      obtain ⟨b2, o2, x', y', hA2, hx', hc2, _⟩ := (ha.fr0 hf).at_ hltj
      subst hA
      injection hA2 with hA2
      injection hA2 with z1 z2
      subst z1 z2
      have hv1 := HNF.out.val _ (List.mem_of_getElem? hx.out)
      have hv2 := HNF.out.val _ (List.mem_of_getElem? hx'.out)
      simp only at hv1 hv2
      obtain ⟨xn, rfl⟩ : ∃ xn : Nat, x = xn := ⟨x.toNat, by omega⟩
      obtain ⟨xm, rfl⟩ : ∃ xm : Nat, x' = xm := ⟨x'.toNat, by omega⟩
      have hyl : 8 * xn + xm < 64 := by omega
      obtain ⟨bb, hbb2⟩ : ∃ b, bs'[8 * xn + xm]? = some b := ⟨_, List.getElem?_eq_getElem (by omega)⟩
      obtain ⟨k2, k3⟩ := hbo.cell hbb2
      have hEy : Hid (E[j]? = some ((8 * xn + xm : Nat) : Int)) := by
        show _ = _
        rw [hEat.out j hltj, getD_at hx, getD_at hx']
        simp
      have hsn : Hid (bs'.set (8 * xn + xm) true = setAll bs0 (E.take (j + 1))) := by show _ = _; rw [setAll_snoc hEy, ← hbs'.out]; rfl
      clear hbb2 hv1 hv2
      have d1 : decide ((j : Int) + 1 < l.length) = true := by simp; omega
      have e1 : (j : Int) + 1 - 1 = j := by omega
      go_wp2_with fail
      go_region
      go_wp2_with fail
      go_roundw
      case rel => exact ⟨j + 1, bs'.set (8 * xn + xm) true, by omega, by go_num, hsn, by simpa using hbl', hbo.set_ _ true, hbh.far (p := ⟨w.heap.size + 1, 8 * xn + xm, none⟩) (by simp) _, (hf.setCell (p := ⟨w.heap.size + 1, 8 * xn + xm, none⟩) (.inr (by simp)) _).drew⟩
      case measure => simp [intOf]; omega
    · have hfin : Hid (pickedOf bs' = edgeSet l) := by
        show _ = _
        rw [← hfull0.out, hbs'.out, List.take_of_length_le (by omega)]
      clear hbs' hfull0 hlen0
      have d1 : decide ((j : Int) + 1 < l.length) = false := by simp; omega
      have hpf : Hid (pickUpto bs' bs'.length = edgeSet l) := hfin
      have hrb := Rd.of_blk hbo (by unfold maxLen; omega)
      rw [hbl'] at hrb
      have hr3 : Rd wr .bool (some ⟨w.heap.size + 1, 0, none⟩) 64 bs' := hrb
      clear hfin hbo hrb hEat
      go_wp2_with fail
      go_loopw [7, 8] (fun vv i w4 => ∃ k : Nat, k ≤ bs'.length ∧ i = .int .i64 k ∧ GathN wr 3 (pickUpto bs' k) vv w4) (fun _ i _ => bs'.length - (intOf i).toNat)
      case atStart => exact ⟨0, Nat.zero_le _, rfl, GathN.start _ _ (by simp [pickUpto])⟩
      case round =>
        obtain ⟨k, hk, rfl, A1, c1, rfl, hown, hf4⟩ := hrel
        have hpl := pick_le bs' k
        by_cases hlt : k < bs'.length
        · obtain ⟨b1, o1, y, hA, hx, hc1⟩ := (hr3.fr0 hf4).at_ hlt
          injection hA with hA
          injection hA with e1 e2
          subst e1 e2
          rw [Nat.zero_add] at hc1
          have hlt' : (k : Int) < 64 := by omega
          have d2 : decide ((k : Int) < 64) = true := by simpa using hlt'
          have hk64 : k < 64 := by omega
          cases y
          · go_wp2
            go_roundw
            case rel => exact ⟨k + 1, by omega, by go_num, GathN.same hf4 hown (by rw [pick_no hx])⟩
            case measure => simp [intOf]; omega
          · go_wp2_with (at_builtin; refine wpList_append_rd rfl (.tmp 40) (.tmp 42) _ rfl elemInts (.slice A1 (pickUpto bs' k).length c1) _ rfl (hown.alloc _) _ _ [(k : Int)] (.int .i64) rfl (Rd.one _ _ _ _) one_i64 (by simp; omega) (by simp; have := hf4.size; omega) ?_; intro A2 c2 w2 hown2 hg2 hat2)
            go_roundw
            case rel => exact ⟨k + 1, by omega, by go_num, GathN.snoc (hf4.alloc _) (hown.alloc _) hg2 hown2 (by rw [pick_yes hx]; simp)⟩
            case measure => simp [intOf]; omega
        · have hke : k = bs'.length := by omega
          have hge : ¬ (k : Int) < 64 := by omega
          have d2 : decide ((k : Int) < 64) = false := by simpa using hge
          rw [hke, hpf.out] at hown ⊢
          clear hpf hpl
          have hbh4 := hbh.fr hf4 (by simp)
          have hF4 := hf.trans hf4
          obtain ⟨_, hrs⟩ := Rd.of_own hown
          have hmc := fun S h => mixed_any A1 c1 S (edgeSet l) _ hrs h
          have hmw := wrap_within .u64 (o.salt + l.length)
          have hmm := mixedOf_in (IntKind.u64.wrap (o.salt + l.length)) (edgeSet l)
          generalize edgeSet l = es at *
          have q2 := hbh4.cell 2 rfl
          clear hown
          have hmc := hmc _ hmw
          go_wp2_with fail
          refine hmc.mono ?_
          generalize mixedOf (IntKind.u64.wrap (o.salt + l.length)) es = m at *
          obtain ⟨hm0, hm1⟩ := hmm
          obtain ⟨hlo0, hlo1⟩ := hlo
          rintro e w1 ⟨rfl, k1, rfl⟩
          have hbk1 := hbh4.drewN k1
          have q0 := hbk1.cell 0 rfl
          have q1 := hbk1.cell 1 rfl
          have q3 := hbk1.cell 3 rfl
          have hF1 := hF4.drewN k1
          have hrs1 := hrs.drewN k1
          clear hmc q2 hbh4 hbh hF4 hrs hmw hf4 hf
          by_cases h1 : m / 1048576 % 256 < o.loose
          · have hR : Hid (sayP o l = 1 + m / 1048576 / 256 % 3) := by show _ = _; rw [hSay.out, if_pos h1]
            clear hSay
            go_wp2
            go_ret
            exact ⟨ret_int hR.out.symm, hF1⟩
          · have hR : Hid (sayP o l = if contB es o.need = true ∧ contB es o.bar = false then 2 else 1) := by show _ = _; rw [hSay.out, if_neg h1]
            clear hSay
            go_wp2_with fail
            refine (contains_any A1 N c1 n es o.need _ hrs1 (hN.fr0 hF1) HL1.out).mono ?_
            rintro e w2 ⟨rfl, hf2⟩
            have hF2 := hF1.trans hf2
            have hbk2 := hbk1.fr hf2 (by simp)
            have p1 := hbk2.cell 1 rfl
            have hrs2 := hrs1.fr0 hf2
            rcases hc1 : contB es o.need with _ | _
            · have hR2 : Hid (sayP o l = 1) := by show _ = _; rw [hR.out, if_neg (by simp [hc1])]
              clear hc1
              go_wp2
              go_ret
              exact ⟨ret_int hR2.out.symm, hF2⟩
            · have HC1 := Lib.hid hc1
              clear hc1
              go_wp2_with fail
              refine (contains_any A1 B c1 b es o.bar _ hrs2 (hB.fr0 hF2) HL2.out).mono ?_
              rintro e w3 ⟨rfl, hf3⟩
              have hF3 := hF2.trans hf3
              rcases hc2 : contB es o.bar with _ | _
              · have hR2 : Hid (sayP o l = 2) := by show _ = _; rw [hR.out, if_pos ⟨HC1.out, hc2⟩]
                clear hc2
                go_wp2
                go_ret
                exact ⟨ret_int hR2.out.symm, hF3⟩
              · have hR2 : Hid (sayP o l = 1) := by show _ = _; rw [hR.out, if_neg (by simp [hc2])]
                clear hc2
                go_wp2
                go_ret
                exact ⟨ret_int hR2.out.symm, hF3⟩
end Go.Proofs.YtjpbmbonccenfaaDoor
