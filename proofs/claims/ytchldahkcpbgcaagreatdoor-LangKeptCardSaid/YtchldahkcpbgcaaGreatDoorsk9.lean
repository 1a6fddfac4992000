/- Texts of this seat, one behind the other: PrtA, PrtB, PrtC, PrtD, PrtP. -/
import Derived.Test.YtchldahkcpbgcaaGreatDoorsk6
import Derived.Test.YtchldahkcpbgcaaGreatDoorsk8
import Derived.Deep.QuietTactic
import Derived.BigQuiet
namespace Go.Proofs.YtchldahkcpbgcaaGreatDoor
set_option linter.unusedVariables false

/- The printer's indent, plain; contracts of the printing functions. -/
section
open Go.RowKit
set_option linter.unusedSimpArgs false
set_option maxRecDepth 20000 in
set_option maxHeartbeats 1600000 in
theorem indent_any (b : Nat) (bs : Bs) (lv : Nat) (w : World) (h : PrW b bs w) (hlen : bs.length + (indB lv).length ≤ 1000000000) :
  Calls Tryz.prog 148 #[pat b, .int .i64 lv] w (Prs b bs (indB lv) w) := by
 have hl := indB_len lv
 go_enter Tryz.func148, Tryz.ntmps148
 go_wp2
 go_loopw [5] (fun i wr => ∃ k : Nat, k ≤ lv ∧ i = .int .i64 k ∧ PrW b (bs ++ indB k) wr ∧ Below b w wr) (fun i _ => lv - (intOf i).toNat)
 case atStart => exact ⟨0, Nat.zero_le _, rfl, by rw [show indB 0 = [] from rfl, List.append_nil]; exact h, Below.refl _ _⟩
 case round =>
  obtain ⟨k, hk, rfl, hp, hf⟩ := hrel
  have hk2 := indB_len k
  by_cases hlt : k < lv
  ·go_wp2_with fail
   refine (pr_str b _ _ _ hp (by rw [List.length_append, hk2]; show _ + 2 ≤ _; omega)).mono ?_
   rintro e w3 ⟨rfl, hp3, hf3⟩
   go_wp2
   go_roundw
   case rel => exact ⟨k + 1, by omega, by go_num, by rw [indB_succ, ← List.append_assoc]; exact hp3, hf.trans hf3⟩
   case measure => simp [intOf]; omega
  ·obtain rfl : k = lv := by omega
   go_wp2
   go_end0
   exact ⟨rfl, hp, hf⟩
end

/- The printer's list and statements, one depth each. -/
section
open Go.RowKit
set_option linter.unusedSimpArgs false
def ExprP (n : Nat) : Prop := ∀ (b : Nat) (bs : Bs) (k o : Nat) (x : Nd) (h : HdN) (lv : Nat) (inFn : Bool) (w : World), NdAt w k o x h → NdH (upB b) n w h x → k < b → isExprK x.kind = true → x.okB inFn = true → PrW b bs w →
 bs.length + (x.exprB lv).length ≤ 1000000000 → lv + n ≤ 1000000 → Calls Tryz.prog 104 #[pat b, .pointer (some ⟨k, o, none⟩), .int .i64 lv] w (Prs b bs (x.exprB lv) w)
def StmtP (n : Nat) : Prop := ∀ (b : Nat) (bs : Bs) (k o : Nat) (x : Nd) (h : HdN) (lv : Nat) (inFn : Bool) (w : World), NdAt w k o x h → NdH (upB b) n w h x → k < b → isStmtK x.kind = true → x.okB inFn = true → PrW b bs w →
 bs.length + (x.stmtB lv).length ≤ 1000000000 → lv + n ≤ 1000000 → Calls Tryz.prog 194 #[pat b, .pointer (some ⟨k, o, none⟩), .int .i64 lv] w (Prs b bs (x.stmtB lv) w)
def ListP (n : Nat) : Prop := ∀ (b : Nat) (bs : Bs) (A : Option Addr) (c : Nat) (l : List Nd) (lv : Nat) (inFn : Bool) (w : World), LN (upB b) n w A c l → lsB true inFn l = true → PrW b bs w →
 bs.length + (commas (exprsB l lv)).length ≤ 1000000000 → lv + n ≤ 1000000 → Calls Tryz.prog 201 #[pat b, .slice A l.length c, .int .i64 lv] w (Prs b bs (commas (exprsB l lv)) w)
def StmtsP (n : Nat) : Prop := ∀ (b : Nat) (bs : Bs) (A : Option Addr) (c : Nat) (l : List Nd) (lv : Nat) (inFn : Bool) (w : World), LN (upB b) n w A c l → lsB false inFn l = true → PrW b bs w →
 bs.length + (stmtsB lv (linesB l lv)).length ≤ 1000000000 → lv + n ≤ 1000001 → Calls Tryz.prog 147 #[pat b, .slice A l.length c, .int .i64 lv] w (Prs b bs (stmtsB lv (linesB l lv)) w)
theorem commas_le (l : List Bs) (k : Nat) : (commas (l.take k)).length ≤ (commas l).length := by
  cases l with
  | nil => simp [commas]
  | cons x l =>
    cases k with
    | zero => simp [commas]
    | succ k =>
      rw [List.take_succ_cons, commas, commas]
      conv => rhs; rw [← List.take_append_drop k l, List.map_append, List.flatten_append]
      simp only [List.length_append]
      omega
theorem stmtsB_le (lv : Nat) (l : List Bs) (k : Nat) : (stmtsB lv (l.take k)).length ≤ (stmtsB lv l).length := by
 unfold stmtsB
 conv => rhs; rw [← List.take_append_drop k l, List.map_append, List.flatten_append]
 simp only [List.length_append]
 omega
theorem exprsB_take {l : List Nd} {k : Nat} {x : Nd} (h : Hid (l[k]? = some x)) (lv : Nat) : commas (exprsB (l.take (k + 1)) lv) = commas (exprsB (l.take k) lv) ++ (if k = 0 then [] else [44, 32]) ++ x.exprB lv := by
 have hk : k < l.length := by
  rcases Nat.lt_or_ge k l.length with h1 | h1
  ·exact h1
  ·have := h.out
   rw [List.getElem?_eq_none h1] at this
   cases this
 unfold exprsB
 rw [take_at h, List.map_append]
 show commas (_ ++ [x.exprB lv]) = _
 rw [commas_app]
 congr 2
 rw [List.length_map, List.length_take, Nat.min_eq_left (Nat.le_of_lt hk)]
theorem linesB_take {l : List Nd} {k : Nat} {x : Nd} (h : Hid (l[k]? = some x)) (lv : Nat) : stmtsB lv (linesB (l.take (k + 1)) lv) = stmtsB lv (linesB (l.take k) lv) ++ (indB lv ++ x.stmtB lv ++ [10]) := by
 unfold linesB
 rw [take_at h, List.map_append]
 exact stmtsB_app _ _ _
theorem commasT_le (l : List Nd) (lv k : Nat) : (commas (exprsB (l.take k) lv)).length ≤ (commas (exprsB l lv)).length := by
 unfold exprsB
 rw [List.map_take]
 exact commas_le _ _
theorem linesT_le (l : List Nd) (lv k : Nat) : (stmtsB lv (linesB (l.take k) lv)).length ≤ (stmtsB lv (linesB l lv)).length := by
 unfold linesB
 rw [List.map_take]
 exact stmtsB_le _ _ _
set_option maxRecDepth 20000 in
set_option maxHeartbeats 3200000 in
theorem list_stepP (n : Nat) (hE : ExprP n) : ListP (n + 1) := by
 intro b bs A c l lv inFn w hl ho hp hlen hlv
 have hl1 := hl.len
 go_enter Tryz.func201, Tryz.ntmps201
 go_wp2
 go_loopw [9] (fun i wr => ∃ k : Nat, k ≤ l.length ∧ i = .int .i64 k ∧ PrW b (bs ++ commas (exprsB (l.take k) lv)) wr ∧ Below b w wr) (fun i _ => l.length - (intOf i).toNat)
 case atStart => exact ⟨0, Nat.zero_le _, rfl, by rw [show commas (exprsB (l.take 0) lv) = [] from rfl, List.append_nil]; exact hp, Below.refl _ _⟩
 case round =>
  obtain ⟨k, hk, rfl, hq, hf⟩ := hrel
  by_cases hlt : k < l.length
  ·obtain ⟨kb, off, x, hd, rfl, hx, hN, hH, hkb⟩ := hl.at_ hlt
   have hkb : kb < b := Nat.lt_of_not_le hkb
   have ho2 := lsB_mem (List.mem_of_getElem? hx.out) ho
   have HT := Lib.hid (exprsB_take hx lv)
   have HL := Lib.hid (commasT_le l lv (k + 1))
   by_cases h0 : k = 0
   ·subst h0
    have HE : Hid (∀ w', Below b w w' → PrW b bs w' → Calls Tryz.prog 104 #[pat b, .pointer (some ⟨kb, off, none⟩), .int .i64 lv] w' (Prs b bs (x.exprB lv) w')) := Lib.hid fun w' h1 h2 =>
     hE b bs kb off x hd lv inFn w' (by have := hN.below h1 hkb; simpa using this) (hH.below h1) hkb ho2.1 ho2.2 h2 (by have h3 := HT.out; have h4 := HL.out; rw [h3] at h4; simp at h4; omega) (by omega)
    have HU : Hid (commas (exprsB (l.take (0 + 1)) lv) = x.exprB lv) := Lib.hid (by rw [HT.out]; rfl)
    have hq : PrW b bs wr := by rw [show commas (exprsB (l.take 0) lv) = [] from rfl, List.append_nil] at hq; exact hq
    clear HT HL hE
    go_wp2_with fail
    refine (HE.out _ hf hq).mono ?_
    rintro e w3 ⟨rfl, hp3, hf3⟩
    go_wp2
    go_roundw
    case rel => exact ⟨0 + 1, by omega, by go_num, by rw [HU.out]; exact hp3, hf.trans hf3⟩
    case measure => simp [intOf]; omega
   ·have hk0 : 0 < k := by omega
    have HT2 := HT.out
    have HL2 := HL.out
    rw [HT2, if_neg h0] at HL2
    simp only [List.length_append, List.length_cons, List.length_nil] at HL2
    have HE : Hid (∀ w', Below b w w' → PrW b (bs ++ commas (exprsB (l.take k) lv) ++ [44, 32]) w' → Calls Tryz.prog 104 #[pat b, .pointer (some ⟨kb, off + k * 7, none⟩), .int .i64 lv] w' (Prs b (bs ++ commas (exprsB (l.take k) lv) ++ [44, 32]) (x.exprB lv) w')) := Lib.hid fun w' h1 h2 =>
     hE b _ kb (off + k * 7) x hd lv inFn w' (hN.below h1 hkb) (hH.below h1) hkb ho2.1 ho2.2 h2 (by simp only [List.length_append, List.length_cons, List.length_nil]; omega) (by omega)
    have HU : Hid (bs ++ commas (exprsB (l.take (k + 1)) lv) = bs ++ commas (exprsB (l.take k) lv) ++ [44, 32] ++ x.exprB lv) := Lib.hid (by rw [HT.out, if_neg h0]; simp only [List.append_assoc])
    clear HT HL hE HT2
    go_wp2_with fail
    refine (pr_str b _ _ _ hq (by rw [List.length_append]; show _ + 2 ≤ _; omega)).mono ?_
    rintro e w2 ⟨rfl, hp2, hf2⟩
    go_wp2_with fail
    refine (HE.out _ (hf.trans hf2) hp2).mono ?_
    rintro e w3 ⟨rfl, hp3, hf3⟩
    go_wp2
    go_roundw
    case rel => exact ⟨k + 1, by omega, by go_num, by rw [HU.out]; exact hp3, (hf.trans hf2).trans hf3⟩
    case measure => simp [intOf]; omega
  ·rw [List.take_of_length_le (by omega)] at hq
   go_wp2
   go_end0
   exact ⟨rfl, hq, hf⟩
set_option maxRecDepth 20000 in
set_option maxHeartbeats 3200000 in
theorem statements_stepP (n : Nat) (hE : StmtP n) : StmtsP (n + 1) := by
 intro b bs A c l lv inFn w hl ho hp hlen hlv
 have hl1 := hl.len
 go_enter Tryz.func147, Tryz.ntmps147
 go_wp2
 go_loopw [9] (fun i wr => ∃ k : Nat, k ≤ l.length ∧ i = .int .i64 k ∧ PrW b (bs ++ stmtsB lv (linesB (l.take k) lv)) wr ∧ Below b w wr) (fun i _ => l.length - (intOf i).toNat)
 case atStart => exact ⟨0, Nat.zero_le _, rfl, by rw [show stmtsB lv (linesB (l.take 0) lv) = [] from rfl, List.append_nil]; exact hp, Below.refl _ _⟩
 case round =>
  obtain ⟨k, hk, rfl, hq, hf⟩ := hrel
  by_cases hlt : k < l.length
  ·obtain ⟨kb, off, x, hd, rfl, hx, hN, hH, hkb⟩ := hl.at_ hlt
   have hkb : kb < b := Nat.lt_of_not_le hkb
   have ho2 := lsB_mem (List.mem_of_getElem? hx.out) ho
   have HT2 := linesB_take hx lv
   have HL2 := linesT_le l lv (k + 1)
   rw [HT2] at HL2
   simp only [List.length_append, List.length_cons, List.length_nil] at HL2
   have HE : Hid (∀ w', Below b w w' → PrW b (bs ++ stmtsB lv (linesB (l.take k) lv) ++ indB lv) w' → Calls Tryz.prog 194 #[pat b, .pointer (some ⟨kb, off + k * 7, none⟩), .int .i64 lv] w' (Prs b (bs ++ stmtsB lv (linesB (l.take k) lv) ++ indB lv) (x.stmtB lv) w')) := Lib.hid fun w' h1 h2 =>
    hE b _ kb (off + k * 7) x hd lv inFn w' (hN.below h1 hkb) (hH.below h1) hkb ho2.1 ho2.2 h2 (by simp only [List.length_append, List.length_cons, List.length_nil]; omega) (by omega)
   have HU : Hid (bs ++ stmtsB lv (linesB (l.take (k + 1)) lv) = bs ++ stmtsB lv (linesB (l.take k) lv) ++ indB lv ++ x.stmtB lv ++ [10]) := Lib.hid (by rw [HT2]; simp only [List.append_assoc])
   clear hE HT2
   go_wp2_with fail
   refine (indent_any b _ lv _ hq (by rw [List.length_append]; omega)).mono ?_
   rintro e w2 ⟨rfl, hp2, hf2⟩
   go_wp2_with fail
   refine (HE.out _ (hf.trans hf2) hp2).mono ?_
   rintro e w3 ⟨rfl, hp3, hf3⟩
   go_wp2_with fail
   refine (pr_byte b _ 10 _ hp3 (by simp only [List.length_append]; omega)).mono ?_
   rintro e w4 ⟨rfl, hp4, hf4⟩
   go_wp2
   go_roundw
   case rel => exact ⟨k + 1, by omega, by go_num, by rw [HU.out]; exact hp4, ((hf.trans hf2).trans hf3).trans hf4⟩
   case measure => simp [intOf]; omega
  ·rw [List.take_of_length_le (by omega)] at hq
   go_wp2
   go_end0
   exact ⟨rfl, hq, hf⟩
end

/- The printer's operand, call, block, load. -/
section
open Go.RowKit
set_option linter.unusedSimpArgs false
abbrev encKd (k : Int) : Value := .int .u8 k
set_option maxRecDepth 20000 in
set_option maxHeartbeats 3200000 in
theorem operand_stepP (n : Nat) (hE : ExprP n) (b : Nat) (bs : Bs) (k o : Nat) (x : Nd) (h : HdN) (lv : Nat) (inFn : Bool) (ks : List Int) (A : Option Addr) (c : Nat) (w : World) (hN : NdAt w k o x h) (hH : NdH (upB b) n w h x) (hkb : k < b)
  (h1 : isExprK x.kind = true) (h2 : x.okB inFn = true) (hks : Rd w encKd A c ks) (hp : PrW b bs w) (hlen : bs.length + (parB ks x.kind (x.exprB lv)).length ≤ 1000000000) (hlv : lv + n ≤ 1000000) :
  Calls Tryz.prog 156 #[pat b, .pointer (some ⟨k, o, none⟩), .int .i64 lv, .slice A ks.length c] w (Prs b bs (parB ks x.kind (x.exprB lv)) w) := by
 have hl1 := hks.bound
 have c0 := hN.c0
 go_enter Tryz.func156, Tryz.ntmps156
 go_wp2
 go_loopw [12] (fun i wr => ∃ j : Nat, j ≤ ks.length ∧ i = .int .i64 j ∧ Hid (x.kind ∉ ks.take j) ∧ wr = w) (fun i _ => ks.length - (intOf i).toNat)
 case atStart => exact ⟨0, Nat.zero_le _, rfl, by show ¬ _; simp, rfl⟩
 case round =>
  obtain ⟨j, hj, rfl, hno, rfl⟩ := hrel
  by_cases hlt : j < ks.length
  ·obtain ⟨kb, off, t, rfl, hx, ht⟩ := hks.at_ hlt
   by_cases hm : x.kind = t
   ·have hmem : x.kind ∈ ks := hm ▸ List.mem_of_getElem? hx.out
    have HP : Hid (bs ++ parB ks x.kind (x.exprB lv) = bs ++ [40] ++ x.exprB lv ++ [41]) := Lib.hid (by unfold parB; rw [if_pos hmem]; simp only [List.append_assoc])
    have hlen2 : bs.length + 1 + (x.exprB lv).length + 1 ≤ 1000000000 := by
     unfold parB at hlen
     rw [if_pos hmem] at hlen
     simp only [List.length_append, List.length_cons, List.length_nil] at hlen
     omega
    have HE : Hid (∀ w', Below b wr w' → PrW b (bs ++ [40]) w' → Calls Tryz.prog 104 #[pat b, .pointer (some ⟨k, o, none⟩), .int .i64 lv] w' (Prs b (bs ++ [40]) (x.exprB lv) w')) := Lib.hid fun w' h3 h4 =>
     hE b _ k o x h lv inFn w' (hN.below h3 hkb) (hH.below h3) hkb h1 h2 h4 (by simp only [List.length_append, List.length_cons, List.length_nil]; omega) hlv
    clear hlen hmem hE hno
    rw [hm] at c0
    go_wp2_with fail
    refine (pr_byte b _ 40 _ hp (by omega)).mono ?_
    rintro e w2 ⟨rfl, hp2, hf2⟩
    go_wp2_with fail
    refine (HE.out _ hf2 hp2).mono ?_
    rintro e w3 ⟨rfl, hp3, hf3⟩
    go_wp2_with fail
    refine (pr_byte b _ 41 _ hp3 (by simp only [List.length_append, List.length_cons, List.length_nil]; omega)).mono ?_
    rintro e w4 ⟨rfl, hp4, hf4⟩
    go_wp2
    go_end0
    exact ⟨rfl, by rw [HP.out]; exact hp4, (hf2.trans hf3).trans hf4⟩
   ·go_wp2_with fail
    go_roundw
    case rel => exact ⟨j + 1, by omega, by go_num, by show ¬ _; rw [take_at hx, List.mem_append]; exact fun h => h.elim hno.out (fun h => hm (by simpa using h)), by first | trivial | rfl⟩
    case measure => simp [intOf]; omega
  ·rw [List.take_of_length_le (by omega)] at hno
   have hpar : parB ks x.kind (x.exprB lv) = x.exprB lv := by unfold parB; rw [if_neg hno.out]
   rw [hpar] at hlen
   have HP := Lib.hid hpar
   have HE := Lib.hid (hE b bs k o x h lv inFn wr hN hH hkb h1 h2 hp hlen hlv)
   clear hpar hE
   go_wp2_with fail
   refine HE.out.mono ?_
   rintro e w3 ⟨rfl, hp3, hf3⟩
   go_wp2
   go_end0
   exact ⟨rfl, by rw [HP.out]; exact hp3, hf3⟩
theorem sb_app (s t : ByteArray) : sb (s ++ t) = sb s ++ sb t := by simp [sb]
theorem pr_strE (b : Nat) (bs t : Bs) (s : ByteArray) (w : World) (h : PrW b bs w) (ht : sb s = t) (hlen : bs.length + t.length ≤ 140737488355328) :
  Calls Tryz.prog 88 #[pat b, .string s] w fun e w' => ∃ m : Int, e = .returned (.tuple #[.int .i64 m, .nilIface]) ∧ PrW b (bs ++ t) w' ∧ Below b w w' := by
 subst ht
 rw [sb_len] at hlen
 refine (pr_str b bs s w h hlen).mono ?_
 rintro e w' ⟨h1, h2, h3⟩
 exact ⟨_, h1, h2, h3⟩
set_option maxRecDepth 20000 in
set_option maxHeartbeats 3200000 in
theorem block_stepP (n : Nat) (hL : StmtsP n) (b : Nat) (bs : Bs) (A : Option Addr) (c : Nat) (l : List Nd) (lv : Nat) (behind : ByteArray) (inFn : Bool) (w : World) (hl : LN (upB b) n w A c l) (ho : lsB false inFn l = true) (hp : PrW b bs w)
  (hlen : bs.length + (blockB lv (linesB l (lv + 1)) (sb behind)).length ≤ 1000000000) (hlv : lv + 1 + n ≤ 1000001) :
  Calls Tryz.prog 90 #[pat b, .slice A l.length c, .int .i64 lv, .string behind] w (Prs b bs (blockB lv (linesB l (lv + 1)) (sb behind)) w) := by
 unfold blockB at hlen ⊢
 simp only [List.length_append, List.length_cons, List.length_nil, sb_len] at hlen
 have HL : Hid (∀ w', Below b w w' → PrW b (bs ++ [32, 123, 10]) w' → Calls Tryz.prog 147 #[pat b, .slice A l.length c, .int .i64 (lv + 1)] w' (Prs b (bs ++ [32, 123, 10]) (stmtsB (lv + 1) (linesB l (lv + 1))) w')) := Lib.hid fun w' h3 h4 =>
  hL b _ A c l (lv + 1) inFn w' (hl.below h3) ho h4 (by simp only [List.length_append, List.length_cons, List.length_nil, sb_len]; omega) hlv
 clear hL
 go_enter Tryz.func90, Tryz.ntmps90
 go_wp2_with fail
 refine (pr_str b bs _ _ hp (by show _ + 3 ≤ _; omega)).mono ?_
 rintro e w2 ⟨rfl, hp2, hf2⟩
 go_wp2_with fail
 refine (HL.out _ hf2 hp2).mono ?_
 rintro e w3 ⟨rfl, hp3, hf3⟩
 go_wp2_with fail
 refine (indent_any b _ lv _ hp3 (by simp only [List.length_append, List.length_cons, List.length_nil]; omega)).mono ?_
 rintro e w4 ⟨rfl, hp4, hf4⟩
 go_wp2_with fail
 refine (pr_str b _ behind _ hp4 (by simp only [List.length_append, List.length_cons, List.length_nil]; omega)).mono ?_
 rintro e w5 ⟨rfl, hp5, hf5⟩
 go_wp2
 go_end0
 exact ⟨rfl, by simpa only [List.append_assoc, List.cons_append, List.nil_append] using hp5, ((hf2.trans hf3).trans hf4).trans hf5⟩
end

/- The printer's call, load. -/
section
open Go.RowKit
set_option linter.unusedSimpArgs false
set_option maxRecDepth 20000 in
set_option maxHeartbeats 800000 in
theorem call_stepP (n : Nat) (hL : ListP n) (b : Nat) (bs : Bs) (before : ByteArray) (t : Bs) (ht : sb before = t) (A : Option Addr) (c : Nat) (l : List Nd) (lv : Nat) (inFn : Bool) (w : World) (hl : LN (upB b) n w A c l) (ho : lsB true inFn l = true) (hp : PrW b bs w)
  (hlen : bs.length + (callB t (exprsB l lv)).length ≤ 1000000000) (hlv : lv + n ≤ 1000000) :
  Calls Tryz.prog 157 #[pat b, .string before, .slice A l.length c, .int .i64 lv] w (Prs b bs (callB t (exprsB l lv)) w) := by
 unfold callB at hlen ⊢
 simp only [List.length_append, List.length_cons, List.length_nil] at hlen
 have HT : Hid (sb (before ++ ⟨#[40]⟩) = t ++ [40]) := Lib.hid (by rw [sb_app, ht]; rfl)
 have HL : Hid (∀ w', Below b w w' → PrW b (bs ++ (t ++ [40])) w' → Calls Tryz.prog 201 #[pat b, .slice A l.length c, .int .i64 lv] w' (Prs b (bs ++ (t ++ [40])) (commas (exprsB l lv)) w')) := Lib.hid fun w' h3 h4 =>
  hL b _ A c l lv inFn w' (hl.below h3) ho h4 (by simp only [List.length_append, List.length_cons, List.length_nil]; omega) hlv
 have hbz : before.size + 1 ≤ 9223372036854775807 := by rw [← sb_len, ht]; omega
 clear hL ht
 go_enter Tryz.func157, Tryz.ntmps157
 go_wp2_with fail
 refine (pr_strE b bs (t ++ [40]) _ _ hp HT.out (by simp only [List.length_append, List.length_cons, List.length_nil]; omega)).mono ?_
 rintro e w2 ⟨m, rfl, hp2, hf2⟩
 clear HT
 go_wp2_with fail
 refine (HL.out _ hf2 hp2).mono ?_
 rintro e w3 ⟨rfl, hp3, hf3⟩
 go_wp2_with fail
 refine (pr_byte b _ 41 _ hp3 (by simp only [List.length_append, List.length_cons, List.length_nil]; omega)).mono ?_
 rintro e w4 ⟨rfl, hp4, hf4⟩
 go_wp2
 go_end0
 exact ⟨rfl, by simpa only [List.append_assoc, List.cons_append, List.nil_append] using hp4, (hf2.trans hf3).trans hf4⟩
end

/- plain of the printer (printed by gen/prtp.py). -/
section
open Go.RowKit
set_option linter.unusedSimpArgs false
def RetPlain (w : World) (k : Int) (t : ByteArray) (e : Ending) (w' : World) : Prop := (∃ n, w' = w.drewN n) ∧ ∃ s : ByteArray, e = .returned (.tuple #[.string s, .bool (plainF k t).isSome]) ∧ sb s = (plainF k t).getD []
set_option maxRecDepth 20000 in
set_option maxHeartbeats 3200000 in
theorem plain_any (k o : Nat) (x : Nd) (h : HdN) (w : World) (hN : NdAt w k o x h) (hs : x.text.size ≤ 1000000000) :
  Calls Tryz.prog 218 #[.pointer (some ⟨k, o, none⟩)] w (RetPlain w x.kind x.text) := by
 have c0 := hN.c0
 have c1 := hN.c1
 generalize x.kind = kd at *
 generalize x.text = tx at *
 have hs1 : tx.size + 3 ≤ 9223372036854775807 := by omega
 have hs2 : 4 + tx.size ≤ 9223372036854775807 := by omega
 have hs3 : 4 + tx.size + 3 ≤ 9223372036854775807 := by omega
 clear hs hN
 have HLet : Hid (sb (⟨#[108, 101, 116, 32]⟩ ++ tx ++ ⟨#[32, 61, 32]⟩) = [108, 101, 116, 32] ++ sb tx ++ [32, 61, 32]) := Lib.hid (by rw [sb_app, sb_app]; rfl)
 have HSet : Hid (sb (tx ++ ⟨#[32, 61, 32]⟩) = sb tx ++ [32, 61, 32]) := Lib.hid (by rw [sb_app]; rfl)
 by_cases h14 : kd = 14
 ·subst h14
  go_enter Tryz.func218, Tryz.ntmps218
  go_wp2_with fail
  go_ret2
  exact ⟨⟨0, rfl⟩, _, rfl, HLet.out⟩
 by_cases h15 : kd = 15
 ·subst h15
  go_enter Tryz.func218, Tryz.ntmps218
  go_wp2_with fail
  go_ret2
  exact ⟨⟨0, rfl⟩, _, rfl, HSet.out⟩
 by_cases h19 : kd = 19
 ·subst h19
  go_enter Tryz.func218, Tryz.ntmps218
  go_wp2_with fail
  go_ret2
  exact ⟨⟨0, rfl⟩, _, rfl, rfl⟩
 by_cases h20 : kd = 20
 ·subst h20
  go_enter Tryz.func218, Tryz.ntmps218
  go_wp2_with fail
  go_ret2
  exact ⟨⟨0, rfl⟩, _, rfl, rfl⟩
 by_cases h22 : kd = 22
 ·subst h22
  go_enter Tryz.func218, Tryz.ntmps218
  go_wp2_with fail
  go_ret2
  exact ⟨⟨0, rfl⟩, _, rfl, rfl⟩
 by_cases h23 : kd = 23
 ·subst h23
  go_enter Tryz.func218, Tryz.ntmps218
  go_wp2_with fail
  go_ret2
  exact ⟨⟨0, rfl⟩, _, rfl, rfl⟩
 by_cases h24 : kd = 24
 ·subst h24
  go_enter Tryz.func218, Tryz.ntmps218
  go_wp2_with fail
  go_ret2
  exact ⟨⟨0, rfl⟩, _, rfl, rfl⟩
 by_cases h25 : kd = 25
 ·subst h25
  go_enter Tryz.func218, Tryz.ntmps218
  go_wp2_with fail
  go_ret2
  exact ⟨⟨0, rfl⟩, _, rfl, rfl⟩
 by_cases h26 : kd = 26
 ·subst h26
  go_enter Tryz.func218, Tryz.ntmps218
  go_wp2_with fail
  go_ret2
  exact ⟨⟨0, rfl⟩, _, rfl, rfl⟩
 by_cases h27 : kd = 27
 ·subst h27
  go_enter Tryz.func218, Tryz.ntmps218
  go_wp2_with fail
  go_quiet (fail)
  go_wp2_with fail
  go_ret2
  exact ⟨⟨_, rfl⟩, _, rfl, rfl⟩
 ·have hP : plainF kd tx = none := by
   unfold plainF
   simp only [h14, h15, h19, h20, h22, h23, h24, h25, h26, h27, if_false]
  have HP := Lib.hid hP
  clear hP
  go_enter Tryz.func218, Tryz.ntmps218
  go_wp2_with fail
  go_quiet (fail)
  go_wp2_with fail
  go_ret2
  refine ⟨⟨_, rfl⟩, ⟨#[]⟩, ?_, by rw [HP.out]; rfl⟩
  rw [HP.out]
  first | rfl | simp [h27]
end

end Go.Proofs.YtchldahkcpbgcaaGreatDoor
