/- Texts of this seat, one behind the other: SayT. -/
import Derived.Test.YtippadnbngcjlaaGreatDoorh139
import Derived.Test.YtippadnbngcjlaaGreatDoorh121
import Derived.Test.YtippadnbngcjlaaGreatDoorh134
namespace Go.Proofs.YtippadnbngcjlaaGreatDoor
set_option linter.unusedVariables false

/- What an oracle says about a text. -/
section
open Go.RowKit
def hasB (s : Bs) (b : Nat) : Bool := s.any fun x => decide (x.toNat = b)
def bytesTo (s : Bs) (k : Nat) : List Int := ((List.range k).filter (hasB s)).map fun (b : Nat) => (b : Int)
theorem bytes_yes {s : Bs} {k : Nat} (h : hasB s k = true) : bytesTo s (k + 1) = bytesTo s k ++ [(k : Int)] := by unfold bytesTo; rw [List.range_succ]; simp [h]
theorem bytes_no {s : Bs} {k : Nat} (h : hasB s k = false) : bytesTo s (k + 1) = bytesTo s k := by unfold bytesTo; rw [List.range_succ]; simp [h]
theorem bytes_le (s : Bs) (k : Nat) : (bytesTo s k).length ≤ k := by
 unfold bytesTo
 rw [List.length_map]
 exact Nat.le_trans (List.length_filter_le _ _) (by simp)
def sayT (o : Orc) (s : Bs) : Int :=
 if mixedOf (IntKind.u64.wrap (o.salt + s.length)) (bytesTo s 256) / 1048576 % 256 < o.loose then 1 + mixedOf (IntKind.u64.wrap (o.salt + s.length)) (bytesTo s 256) / 1048576 / 256 % 3
 else if contB (bytesTo s 256) o.need = true ∧ contB (bytesTo s 256) o.bar = false then 2 else 1
theorem sayT_in (o : Orc) (s : Bs) : sayT o s = 1 ∨ sayT o s = 2 ∨ sayT o s = 3 := by
 unfold sayT
 have h := (mixedOf_in (IntKind.u64.wrap (o.salt + s.length)) (bytesTo s 256)).1
 generalize mixedOf (IntKind.u64.wrap (o.salt + s.length)) (bytesTo s 256) = m at *
 by_cases h1 : m / 1048576 % 256 < o.loose
 ·rw [if_pos h1]
  omega
 ·rw [if_neg h1]
  by_cases h2 : contB (bytesTo s 256) o.need = true ∧ contB (bytesTo s 256) o.bar = false
  ·rw [if_pos h2]; omega
  ·rw [if_neg h2]; omega
theorem sayT_told (o : Orc) (s : Bs) : told (sayT o s) = sayT o s := by
 rcases sayT_in o s with h | h | h <;> rw [h] <;> rfl
set_option maxRecDepth 100000 in
set_option maxHeartbeats 3200000 in
theorem SayText_any (v : Value) (o : Orc) (s : Bs) (w : World) (ho : OrcIs w v o) (hg : greatO o = false) (hs : s.length ≤ 1000000) :
  Calls Tryz.prog 11 #[v, .string ⟨s.toArray⟩] w (RetV w (.int .u8 (sayT o s))) := by
 obtain ⟨hl1, hl2⟩ := great_len hg
 obtain ⟨N, n, B, b, rfl, hN, hB, hsa, hlo⟩ := ho
 have HL1 := Lib.hid hl1
 have HL2 := Lib.hid hl2
 clear hl1 hl2 hg
 have hSay : Hid (sayT o s = if mixedOf (IntKind.u64.wrap (o.salt + s.length)) (bytesTo s 256) / 1048576 % 256 < o.loose then 1 + mixedOf (IntKind.u64.wrap (o.salt + s.length)) (bytesTo s 256) / 1048576 / 256 % 3 else if contB (bytesTo s 256) o.need = true ∧ contB (bytesTo s 256) o.bar = false then 2 else 1) := rfl
 obtain ⟨W, hW⟩ : ∃ W, W = w.alloc (.cells #[.slice N o.need.length n, .slice B o.bar.length b, .int .u64 o.salt, .int .u8 o.loose] 31) := ⟨_, rfl⟩
 have hF : Fr [] w W := by rw [hW]; exact frx
 have hbh : Blk W w.heap.size 31 #[.slice N o.need.length n, .slice B o.bar.length b, .int .u64 o.salt, .int .u8 o.loose] := by rw [hW]; exact Blk.new _ _ _ _ rfl
 have HW := Lib.hid hW.symm
 clear hW
 go_enter Tryz.func11, Tryz.ntmps11
 go_wp2_with fail
 rw [HW.out]
 go_loopw [5, 6] (fun vv bv wr => ∃ k : Nat, k ≤ 256 ∧ bv = .int .i64 k ∧ GathN W 3 (bytesTo s k) vv wr) (fun _ b _ => 256 - (intOf b).toNat)
 case atStart => exact ⟨0, Nat.zero_le _, rfl, GathN.start _ _ rfl⟩
 case round =>
  obtain ⟨k, hk, rfl, A1, c1, rfl, hown, hf4⟩ := hrel
  have hbl := bytes_le s k
  by_cases hlt : k < 256
  ·have hlt' : (k : Int) < 256 := by omega
   go_wp2_with fail
   go_loopw [5, 7] (fun vv iv wr2 => ∃ i : Nat, i ≤ s.length ∧ iv = .int .i64 i ∧ vv = .slice A1 (bytesTo s k).length c1 ∧ Hid (∀ j x, j < i → s[j]? = some x → x.toNat ≠ k) ∧ wr2.ownsRow W.heap.size 3 1 (.slice A1 (bytesTo s k).length c1) (bytesTo s k).length ((bytesTo s k).map (.int .i64)) ∧ Fr [] W wr2) (fun _ i _ => s.length - (intOf i).toNat)
   case atStart => exact ⟨0, Nat.zero_le _, rfl, rfl, fun j x h => absurd h (Nat.not_lt_zero _), hown, hf4⟩
   case round =>
    clear hown hf4
    obtain ⟨i, hi, rfl, rfl, hno, hown, hf4⟩ := hrel
    by_cases hlt2 : i < s.length
    ·obtain ⟨x, hx⟩ : ∃ x, s[i]? = some x := ⟨_, List.getElem?_eq_getElem hlt2⟩
     have hxi : ∀ h, (⟨s.toArray⟩ : ByteArray)[i]'h = x := fun h => by
      have := List.getElem?_eq_some_iff.1 hx
      exact this.2
     have hx256 : x.toNat < 256 := x.toNat_lt
     have hwx : wrap64 ((x.toNat : Nat) : Int) = ((x.toNat : Nat) : Int) := IntWalk.wrap64_in _ (by omega)
     have HX := Lib.hid hx
     by_cases hxk : x.toNat = k
     ·have hbk : ((((x.toNat : Nat) : Int)) == (k : Int)) = true := by simp; omega
      have hhb : hasB s k = true := List.any_eq_true.2 ⟨x, List.mem_of_getElem? hx, by simpa using hxk⟩
      have HBY := Lib.hid (bytes_yes hhb)
      have HXK := Lib.hid hxk
      clear hx hxk hhb
      generalize bytesTo s k = zs at *
      go_wp2_with (at_builtin; refine wpList_append_rd rfl (.tmp 25) (.tmp 27) _ rfl elemInts (.slice A1 zs.length c1) _ rfl (hown.alloc _) _ _ [(k : Int)] (.int .i64) rfl (Rd.one _ _ _ _) one_i64 (by simp; omega) (by simp; have := hf4.size; omega) ?_; intro A2 c2 w2 hown2 hg2 hat2)
      go_roundw
      case rel => exact ⟨k + 1, by omega, by go_num, GathN.snoc (hf4.alloc _) (hown.alloc _) hg2 hown2 (by rw [HBY.out]; simp)⟩
      case measure => simp [intOf]; omega
     ·have hbk : ((((x.toNat : Nat) : Int)) == (k : Int)) = false := by simp; omega
      have hno2 : Hid (∀ j y, j < i + 1 → s[j]? = some y → y.toNat ≠ k) := fun j y hj hy => by
       by_cases hji : j = i
       ·subst hji
        rw [hx] at hy
        obtain rfl := Option.some.inj hy
        exact hxk
       ·exact hno.out j y (by omega) hy
      clear hx hxk
      go_wp2_with fail
      go_roundw
      case rel => exact ⟨i + 1, by omega, by go_num, rfl, hno2, hown, hf4⟩
      case measure => simp [intOf]; omega
    ·have hhb : hasB s k = false := by
      refine List.any_eq_false.2 fun x hx => ?_
      obtain ⟨j, hj⟩ := List.getElem?_of_mem hx
      have := hno.out j x (by have := (List.getElem?_eq_some_iff.1 hj).1; omega) hj
      simpa using this
     have HBN := Lib.hid (bytes_no hhb)
     clear hhb
     go_wp2_with fail
     go_roundw
     case rel => exact ⟨k + 1, by omega, by go_num, A1, c1, by rw [HBN.out], by rw [HBN.out]; exact hown, hf4⟩
     case measure => simp [intOf]; omega
  ·obtain rfl : k = 256 := by omega
   clear hbl
   have hbh4 := hbh.fr hf4 (by simp)
   have hF4 := hF.trans hf4
   obtain ⟨_, hrs⟩ := Rd.of_own hown
   have hmc := fun S h => mixed_any A1 c1 S (bytesTo s 256) _ hrs h
   have hmw := wrap_within .u64 (o.salt + s.length)
   have hmm := mixedOf_in (IntKind.u64.wrap (o.salt + s.length)) (bytesTo s 256)
   generalize bytesTo s 256 = es at *
   have q2 := hbh4.cell 2 rfl
   clear hown
   have hmc := hmc _ hmw
   go_wp2_with fail
   refine hmc.mono ?_
   generalize mixedOf (IntKind.u64.wrap (o.salt + s.length)) es = m at *
   obtain ⟨hm0, hm1⟩ := hmm
   obtain ⟨hlo0, hlo1⟩ := hlo
   rintro e w1 ⟨rfl, k1, rfl⟩
   have hbk1 := hbh4.drewN k1
   have q0 := hbk1.cell 0 rfl
   have q1 := hbk1.cell 1 rfl
   have q3 := hbk1.cell 3 rfl
   have hF1 := hF4.drewN k1
   have hrs1 := hrs.drewN k1
   clear hmc q2 hbh4 hF4 hrs hmw hf4
   by_cases h1 : m / 1048576 % 256 < o.loose
   ·have hR : Hid (sayT o s = 1 + m / 1048576 / 256 % 3) := by show _ = _; rw [hSay.out, if_pos h1]
    clear hSay
    go_wp2
    go_ret
    exact ⟨ret_int hR.out.symm, hF1⟩
   ·have hR : Hid (sayT o s = if contB es o.need = true ∧ contB es o.bar = false then 2 else 1) := by show _ = _; rw [hSay.out, if_neg h1]
    clear hSay
    go_wp2_with fail
    refine (contains_any A1 N c1 n es o.need _ hrs1 (hN.fr0 hF1) HL1.out).mono ?_
    rintro e w2 ⟨rfl, hf2⟩
    have hF2 := hF1.trans hf2
    have hbk2 := hbk1.fr hf2 (by simp)
    have p1 := hbk2.cell 1 rfl
    have hrs2 := hrs1.fr0 hf2
    rcases hc1 : contB es o.need with _ | _
    ·have hR2 : Hid (sayT o s = 1) := by show _ = _; rw [hR.out, if_neg (by simp [hc1])]
     clear hc1
     go_wp2
     go_ret
     exact ⟨ret_int hR2.out.symm, hF2⟩
    ·have HC1 := Lib.hid hc1
     clear hc1
     go_wp2_with fail
     refine (contains_any A1 B c1 b es o.bar _ hrs2 (hB.fr0 hF2) HL2.out).mono ?_
     rintro e w3 ⟨rfl, hf3⟩
     have hF3 := hF2.trans hf3
     rcases hc2 : contB es o.bar with _ | _
     ·have hR2 : Hid (sayT o s = 2) := by show _ = _; rw [hR.out, if_pos ⟨HC1.out, hc2⟩]
      clear hc2
      go_wp2
      go_ret
      exact ⟨ret_int hR2.out.symm, hF3⟩
     ·have hR2 : Hid (sayT o s = 1) := by show _ = _; rw [hR.out, if_neg (by simp [hc2])]
      clear hc2
      go_wp2
      go_ret
      exact ⟨ret_int hR2.out.symm, hF3⟩
end

end Go.Proofs.YtippadnbngcjlaaGreatDoor
