/- Texts of this seat, one behind the other: Key. -/
import Derived.Test.YtippadnbngcjlaaGreatDoorh17
import Derived.Test.YtippadnbngcjlaaGreatDoorh18
import Derived.Laws.IdiomStrings
import Derived.Laws.BytesArg
namespace Go.Proofs.YtippadnbngcjlaaGreatDoor
set_option linter.unusedVariables false

/- reduce.key: a set's key is the text of its numbers. -/
section
open Go.RowKit
theorem elemBytes : Elem Tryz.prog 117 5 (.int .u8 0) 1 1 := ⟨Tryz.underlying117, by kernel_rfl, rfl, by omega, by omega⟩
theorem one_u8 (z : Int) : (Value.int .u8 z).oneCell' = true := rfl
theorem run_text_own {w : World} {base c n : Nat} {A : Option Addr} {bs : List UInt8} (hown : w.ownsRow base 5 1 (.slice A n c) n (Lib.byteCells bs)) :
  (convert 117 9 (.slice A n c)).run Tryz.prog w = .ok (.string ⟨bs.toArray⟩) w := by
 have hl : n = bs.length := by have := hown.1; rw [Lib.byteCells_length] at this; omega
 subst hl
 have hA : (A = none ∧ bs = []) ∨ ∃ g, A = some ⟨g, 0, none⟩ := by
  rcases hown.2 with ⟨he, h0⟩ | ⟨g, cap, cur, he, _⟩
  ·injection he with e1 e2 e3
   exact .inl ⟨e1, List.eq_nil_of_length_eq_zero h0⟩
  ·injection he with e1 e2 e3
   exact .inr ⟨g, e1⟩
 rcases hA with ⟨rfl, rfl⟩ | ⟨g, rfl⟩
 ·rw [run_convert_bytes_nil w _ _ Tryz.underlying117 Tryz.underlying5 _ _ _ Tryz.underlying9]
  rfl
 ·refine run_convert_bytes_back w _ _ _ _ _ bs Tryz.underlying117 Tryz.underlying5 Tryz.underlying9 (fun j hj => ?_)
  rw [Addr.add_lit, Nat.zero_add, hown.cellAt j (by omega)]
  simp [Lib.byteCells, List.getElem?_eq_getElem hj]
def Tab (w : World) : Prop := Lib.TabIs Tryz.prog w "internal/strconv.uint64pow10" .u64 Lib.pow10Tab
theorem Tab.fr {w w' : World} (h : Tab w) (hf : Fr [] w w') : Tab w' := (Lib.tabBelow_of_tabIs h).on hf.below |>.here
def GathB (w : World) (bs : List UInt8) (v : Value) (wr : World) : Prop :=
 ∃ A c, v = .slice A bs.length c ∧ wr.ownsRow w.heap.size 5 1 (.slice A bs.length c) bs.length (Lib.byteCells bs) ∧ Fr [] w wr
theorem GathB.start (w : World) {bs : List UInt8} (h : bs = []) : GathB w bs (.slice none 0 0) w := by
 subst h
 exact ⟨none, 0, rfl, World.ownsRow_nil w w.heap.size _ 1, Fr.refl _ _⟩
theorem GathB.snoc {w w1 w2 : World} {v : Value} {n m : Nat} {xs ys : List Value} {bs : List UInt8} {A : Option Addr} {c : Nat} (hf : Fr [] w w1) (h1 : w1.ownsRow w.heap.size 5 1 v n xs) (hg : w1.grownBy w2 v.ownBlock)
  (h2 : w2.ownsRow w.heap.size 5 1 (.slice A m c) m ys) (hz : Lib.byteCells bs = ys) : GathB w bs (.slice A m c) w2 := by
 subst hz
 have hm : m = bs.length := by have := h2.1; rw [Lib.byteCells_length] at this; omega
 subst hm
 exact ⟨A, c, rfl, h2, hf.app h1 (Nat.le_refl _) hg⟩
set_option maxHeartbeats 400000 in
theorem key_any (A : Option Addr) (ca : Nat) (xs : List Int) (w : World) (ha : Rd w (.int .i64) A ca xs) (hlen : xs.length ≤ 1000000) (hin : ∀ n ∈ xs, -9223372036854775808 ≤ n ∧ n ≤ 9223372036854775807) (htab : Tab w) :
    Calls Tryz.prog 91 #[.slice A xs.length ca] w (RetV w (keyVal xs)) := by
  go_enter Tryz.func91, Tryz.ntmps91
  go_wp2
  go_loopw [3, 8] (fun v i wr => ∃ k : Nat, k ≤ xs.length ∧ i = .int .i64 k ∧ GathB w (keyBytes (xs.take k)) v wr) (fun _ i _ => xs.length - (intOf i).toNat)
  case atStart => exact ⟨0, Nat.zero_le _, rfl, GathB.start _ (by simp [keyBytes])⟩
  case round =>
    obtain ⟨k, hk, rfl, A1, c1, rfl, hown, hf⟩ := hrel
    have hsz := hf.size
    have hl1 := keyBytes_len (xs.take k) fun n hn => hin n (List.mem_of_mem_take hn)
    have hl2 : (xs.take k).length ≤ k := by simp; omega
    by_cases hlt : k < xs.length
    · obtain ⟨b1, o1, x, rfl, hx, hc1⟩ := (ha.fr0 hf).at_ hlt
      have hxin := hin x (List.mem_of_getElem? hx.out)
      have hl3 := Lib.itoa_length_le x hxin.1 hxin.2
      have hlim : (keyBytes (List.take k xs)).length + 21 ≤ 140737488355328 := by omega
      go_wp2_with (first
        | (at_builtin
           refine wpList_append_rd rfl (.tmp 15) (.tmp 16) _ rfl elemBytes (.slice A2 ((keyBytes (List.take k xs)).length + (Lib.itoa x).length) c2) _ rfl (hown2.alloc _) _ _ [32] (.int .u8) rfl (Rd.one _ _ _ _) one_u8 (by simp; omega) (by have := hb2.size; simp; omega) ?_
           intro A3 c3 w3 hown3 hg3 hat3)
        | (go_at_call 95
           refine (Tryz.strconv_AppendInt_10 w.heap.size _ x hxin.1 hxin.2 _ _ _ hown hsz hlim ((Lib.tabBelow_of_tabIs htab).on hf.below)).mono ?_
           rintro e w2 ⟨v2, rfl, hown2, hb2, -⟩
           obtain ⟨A2, c2, rfl⟩ := own_form hown2))
      go_roundw
      case rel =>
        refine ⟨k + 1, by omega, by go_num, GathB.snoc ((Fr.of_below (hf.below.trans hb2)).alloc _) (hown2.alloc _) hg3 hown3 ?_⟩
        rw [List.take_add_one, hx.out, Option.toList_some, keyBytes_snoc]
        simp [Lib.byteCells]
      case measure => simp [intOf]; omega
    · have hcv := run_text_own hown
      go_wp2
      go_ret
      refine ⟨?_, hf⟩
      rw [List.take_of_length_le (by omega)]
      rfl
end

end Go.Proofs.YtippadnbngcjlaaGreatDoor
