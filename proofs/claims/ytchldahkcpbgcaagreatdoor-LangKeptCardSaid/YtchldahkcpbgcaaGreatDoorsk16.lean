/- Texts of this seat, one behind the other: Cut, One, CutW, ParW, ParE, ParU, ParC, ParVk. -/
import Derived.Test.YtchldahkcpbgcaaGreatDoorsk13
import Derived.Test.YtchldahkcpbgcaaGreatDoorsk1
import Derived.Test.YtchldahkcpbgcaaGreatDoorsk8
import Derived.Test.YtchldahkcpbgcaaGreatDoorsk2
import Derived.Test.YtchldahkcpbgcaaGreatDoorsk14
import Derived.Test.YtchldahkcpbgcaaGreatDoorsk15
namespace Go.Proofs.YtchldahkcpbgcaaGreatDoor
set_option linter.unusedVariables false

/- stretch, blanks, one, cut of the program. -/
section
open Go.RowKit
set_option linter.unusedSimpArgs false
theorem stretch_any (p : Int → Bool) (f : FuncId) (hg : ∀ (args : Array Value) (w : World), (callFunc f args).run Tryz.prog w = .ok (.enter f args) w) (hp : ∀ (c : Int) (w : World), Calls Tryz.prog f #[.int .u8 c] w (RetQ w (.bool (p c))))
  (s : ByteArray) (k : Nat) (w : World) (hk : k ≤ s.size) (hmax : s.size ≤ 1000000) :
  Calls Tryz.prog 178 #[.string s, .int .i64 k, .func (.func f) #[] #[]] w (RetQ w (.int .i64 (endOf p s k - k : Nat))) := by
 have he := endOf_le (p := p) hk
 go_enter Tryz.func178, Tryz.ntmps178
 go_wp2
 go_loopw [7] (fun i wr => ∃ m : Nat, k ≤ m ∧ m ≤ s.size ∧ i = .int .i64 m ∧ Hid (endOf p s m = endOf p s k) ∧ ∃ n, wr = w.drewN n) (fun i _ => s.size - (intOf i).toNat)
 case atStart => exact ⟨k, Nat.le_refl _, hk, rfl, rfl, 0, rfl⟩
 case round =>
  obtain ⟨m, hm, hms, rfl, HE, n, rfl⟩ := hrel
  by_cases hlt : m < s.size
  ·have HB := Lib.hid (byteAt_eq hlt)
   obtain ⟨b, hb⟩ : ∃ b, p (byteAt s m) = b := ⟨_, rfl⟩
   have HC : Hid (∀ w, Calls Tryz.prog f #[.int .u8 (byteAt s m)] w (RetQ w (.bool b))) := Lib.hid (fun w => hb ▸ hp (byteAt s m) w)
   go_wp2_with fail
   rw [HB.out]
   refine (HC.out _).mono ?_
   rintro e w1 ⟨rfl, n1, rfl⟩
   cases b
   ·have HS : Hid (endOf p s k = m) := Lib.hid (by rw [← HE.out, endOf_stop hlt hb])
    clear hb he
    go_wp2
    go_ret
    exact ⟨ret_int (by rw [HS.out]; omega), n + n1, rfl⟩
   ·have HS : Hid (endOf p s (m + 1) = endOf p s k) := Lib.hid (by rw [← HE.out, ← endOf_step hlt hb])
    clear hb
    go_wp2
    go_roundw
    case rel => exact ⟨m + 1, by omega, by omega, by go_num, HS, n + n1, rfl⟩
    case measure => simp [intOf]; omega
  ·have HS : Hid (endOf p s k = m) := Lib.hid (by rw [← HE.out, endOf_end (by omega)])
   clear he
   go_wp2
   go_ret
   exact ⟨ret_int (by rw [HS.out]; omega), n, rfl⟩
theorem notNl_any (c : Int) (w : World) : Calls Tryz.prog 179 #[.int .u8 c] w (RetQ w (.bool (notNl c))) := by
 go_enter Tryz.func179, Tryz.ntmps179
 go_wp2
 go_ret
 refine ⟨ret_bool ?_, 0, rfl⟩
 rw [Bool.eq_iff_iff]
 simp [notNl]
theorem digitF_any (c : Int) (w : World) : Calls Tryz.prog 180 #[.int .u8 c] w (RetQ w (.bool (digB c))) := by
 go_enter Tryz.func180, Tryz.ntmps180
 go_wp2 <;> go_ret <;> refine ⟨ret_bool ?_, 0, rfl⟩ <;> rw [Bool.eq_iff_iff] <;> simp [digB] <;> omega
set_option maxHeartbeats 800000 in
set_option maxRecDepth 20000 in
theorem blanks_any (s : ByteArray) (k : Nat) (w : World) (hk : k ≤ s.size) (hmax : s.size ≤ 1000000) :
  Calls Tryz.prog 133 #[.string s, .int .i64 k] w (RetQ w (.int .i64 (skipTo s k : Nat))) := by
 go_enter Tryz.func133, Tryz.ntmps133
 go_wp2
 go_loopw [1] (fun i wr => ∃ m : Nat, k ≤ m ∧ m ≤ s.size ∧ i = .int .i64 m ∧ Hid (skipTo s m = skipTo s k) ∧ ∃ n, wr = w.drewN n) (fun i _ => s.size - (intOf i).toNat)
 case atStart => exact ⟨k, Nat.le_refl _, hk, rfl, rfl, 0, rfl⟩
 case round =>
  obtain ⟨m, hm, hms, rfl, HE, n, rfl⟩ := hrel
  by_cases hlt : m < s.size
  ·have hB := byteAt_eq hlt
   by_cases hc : byteAt s m = 32
   ·have HS : Hid (skipTo s (m + 1) = skipTo s k) := Lib.hid (by rw [← HE.out, ← skip_blank hlt (by rw [hc]; rfl)])
    have e32 : (((s[m]'hlt).toNat : Int) == 32) = true := by rw [hB, hc]; rfl
    clear hB hc
    go_wp2
    go_roundw
    case rel => exact ⟨m + 1, by omega, by omega, by go_num, HS, n, rfl⟩
    case measure => simp [intOf]; omega
   have h32 := hc
   clear hc
   by_cases hc : byteAt s m = 9
   ·have HS : Hid (skipTo s (m + 1) = skipTo s k) := Lib.hid (by rw [← HE.out, ← skip_blank hlt (by rw [hc]; rfl)])
    have e32 : (((s[m]'hlt).toNat : Int) == 32) = false := by rw [hB, hc]; rfl
    have e9 : (((s[m]'hlt).toNat : Int) == 9) = true := by rw [hB, hc]; rfl
    clear hB hc
    go_wp2
    go_roundw
    case rel => exact ⟨m + 1, by omega, by omega, by go_num, HS, n, rfl⟩
    case measure => simp [intOf]; omega
   have h9 := hc
   clear hc
   by_cases hc : byteAt s m = 10
   ·have HS : Hid (skipTo s (m + 1) = skipTo s k) := Lib.hid (by rw [← HE.out, ← skip_blank hlt (by rw [hc]; rfl)])
    have e32 : (((s[m]'hlt).toNat : Int) == 32) = false := by rw [hB, hc]; rfl
    have e9 : (((s[m]'hlt).toNat : Int) == 9) = false := by rw [hB, hc]; rfl
    have e10 : (((s[m]'hlt).toNat : Int) == 10) = true := by rw [hB, hc]; rfl
    clear hB hc
    go_wp2
    go_roundw
    case rel => exact ⟨m + 1, by omega, by omega, by go_num, HS, n, rfl⟩
    case measure => simp [intOf]; omega
   have h10 := hc
   clear hc
   by_cases hc : byteAt s m = 13
   ·have HS : Hid (skipTo s (m + 1) = skipTo s k) := Lib.hid (by rw [← HE.out, ← skip_blank hlt (by rw [hc]; rfl)])
    have e32 : (((s[m]'hlt).toNat : Int) == 32) = false := by rw [hB, hc]; rfl
    have e9 : (((s[m]'hlt).toNat : Int) == 9) = false := by rw [hB, hc]; rfl
    have e10 : (((s[m]'hlt).toNat : Int) == 10) = false := by rw [hB, hc]; rfl
    have e13 : (((s[m]'hlt).toNat : Int) == 13) = true := by rw [hB, hc]; rfl
    clear hB hc
    go_wp2
    go_roundw
    case rel => exact ⟨m + 1, by omega, by omega, by go_num, HS, n, rfl⟩
    case measure => simp [intOf]; omega
   have h13 := hc
   clear hc
   by_cases hc : byteAt s m = 35
   ·have HS := Lib.hid (skip_rem hlt (by simp [blankB, h32, h9, h10, h13]) hc)
    have HE2 : Hid (skipTo s (endOf notNl s m) = skipTo s k) := Lib.hid (by rw [← HE.out, HS.out])
    have he := endOf_le (p := notNl) (s := s) (k := m) (by omega)
    have he2 := endOf_lt (p := notNl) hlt (by rw [hc]; rfl)
    have e32 : (((s[m]'hlt).toNat : Int) == 32) = false := by rw [hB, hc]; rfl
    have e9 : (((s[m]'hlt).toNat : Int) == 9) = false := by rw [hB, hc]; rfl
    have e10 : (((s[m]'hlt).toNat : Int) == 10) = false := by rw [hB, hc]; rfl
    have e13 : (((s[m]'hlt).toNat : Int) == 13) = false := by rw [hB, hc]; rfl
    have e35 : (((s[m]'hlt).toNat : Int) == 35) = true := by rw [hB, hc]; rfl
    clear hB hc h32 h9 h10 h13
    go_wp2_with fail
    refine (stretch_any notNl _ (fun _ _ => rfl) notNl_any s m _ (by omega) hmax).mono ?_
    rintro e w1 ⟨rfl, n1, rfl⟩
    go_wp2
    go_roundw
    case rel => exact ⟨endOf notNl s m, by omega, by omega, by first | go_num | (congr 1; omega), HE2, n + n1, rfl⟩
    case measure => simp [intOf]; omega
   have h35 := hc
   clear hc
   have HS : Hid (skipTo s k = m) := Lib.hid (by rw [← HE.out, skip_stop hlt (by simp [blankB, h32, h9, h10, h13]) h35])
   have e32 : (((s[m]'hlt).toNat : Int) == 32) = false := by rw [hB]; simp [h32]
   have e9 : (((s[m]'hlt).toNat : Int) == 9) = false := by rw [hB]; simp [h9]
   have e10 : (((s[m]'hlt).toNat : Int) == 10) = false := by rw [hB]; simp [h10]
   have e13 : (((s[m]'hlt).toNat : Int) == 13) = false := by rw [hB]; simp [h13]
   have e35 : (((s[m]'hlt).toNat : Int) == 35) = false := by rw [hB]; simp [h35]
   clear hB h32 h9 h10 h13 h35
   go_wp2
   go_ret
   exact ⟨ret_int (by rw [HS.out]), n, rfl⟩
  ·have HS : Hid (skipTo s k = m) := Lib.hid (by rw [← HE.out, skip_end (by omega)])
   go_wp2
   go_ret
   exact ⟨ret_int (by rw [HS.out]), n, rfl⟩
end

/- allowed, one of the program. -/
section
open Go.RowKit
set_option linter.unusedSimpArgs false
def Tab (w : World) : Prop := ∃ (tp : TypeId) (p : Value), w.var? Tryz.prog "strconv.ErrRange" = some #[.iface tp p]
theorem Tab.fr {w w' : World} (h : Tab w) (hf : Fr [] w w') : Tab w' := by
  obtain ⟨tp, p, h⟩ := h
  refine ⟨tp, p, ?_⟩
  unfold World.var? at h ⊢
  cases hg : Tryz.prog.globalNamed "strconv.ErrRange" with
  | none => rw [hg] at h; cases h
  | some g =>
    rw [hg] at h
    simp only [Option.bind_some] at h ⊢
    cases hb : w.heap[g]? with
    | none => rw [hb] at h; cases h
    | some o => rw [hb] at h; rw [hf.heap hb (by simp)]; exact h
def isSyn {α : Type} : Lib.NumEnd α → Bool
 | .ok _ => false
 | .range => false
 | _ => true
theorem no_syn {s : ByteArray} (h0 : 0 < s.size) (hd : ∀ k, k < s.size → digB (byteAt s k) = true) : isSyn (Lib.parseIntB 64 s.data.toList) = false := by
  have hall : ∀ c ∈ s.data.toList, 48 ≤ c.toNat ∧ c.toNat ≤ 57 := by
    intro c hc
    obtain ⟨k, hk⟩ := List.mem_iff_getElem?.1 hc
    have hlt : k < s.data.toList.length := (List.getElem?_eq_some_iff.1 hk).1
    have h1 := hd k (by simpa using hlt)
    unfold byteAt at h1
    rw [← Array.getElem?_toList, hk] at h1
    simp [digB] at h1
    omega
  have hU : ∀ (l : List UInt8) (M acc : Nat), (∀ c ∈ l, 48 ≤ c.toNat ∧ c.toNat ≤ 57) → isSyn (Lib.parseUintM M acc l) = false := by
    intro l
    induction l with
    | nil => intro M acc _; simp [Lib.parseUintM, isSyn]
    | cons c l ih =>
      intro M acc h
      have hc := h c (by simp)
      have h2 := ih M
      unfold Lib.parseUintM
      simp only [hc.1, hc.2, and_self, if_true]
      repeat' split
      all_goals first | rfl | exact ih _ _ (fun c hc => h c (by simp [hc]))
  have hne : s.data.toList ≠ [] := by
    intro h
    have : s.data.size = 0 := by rw [← Array.length_toList, h]; rfl
    have h3 : s.size = s.data.size := rfl
    omega
  unfold Lib.parseIntB
  cases hl : s.data.toList with
  | nil => exact absurd hl hne
  | cons c r =>
    rw [hl] at hall
    have hc := hall c (by simp)
    have h43 : ¬ (c.toNat = 43 ∨ c.toNat = 45) := by omega
    have hu : isSyn (Lib.parseUintB 64 (c :: r)) = false := by
      unfold Lib.parseUintB
      rw [if_neg (by simp)]
      exact hU _ _ _ hall
    simp only [h43, if_false]
    cases hq : Lib.parseUintB 64 (c :: r) with
    | range => rfl
    | ok u =>
      simp only
      repeat' split
      all_goals rfl
    | _ => rw [hq] at hu; cases hu
theorem allowed_any (s : ByteArray) (w : World) (h0 : 0 < s.size) (hmax : s.size ≤ 1000000) (hd : ∀ k, k < s.size → digB (byteAt s k) = true) (ht : Tab w) :
    Calls Tryz.prog 181 #[.string s] w (RetV w (.bool (okNum s))) := by
  cases hp : Lib.parseIntB 64 s.data.toList with
  | ok v =>
    go_enter Tryz.func181, Tryz.ntmps181
    go_wp2_with fail
    refine (Tryz.strconv_ParseInt_10_at64_ok s (by omega) v hp _).mono ?_
    rintro e w1 ⟨rfl, hw⟩
    have hf : Fr [] w w1 := by
      rcases hw with rfl | ⟨t, rfl⟩
      · exact Fr.refl _ _
      · exact Fr.of_below (Lib.bytesWorld_below _ _ _)
    clear hw
    by_cases h1 : s.size = 1
    · have e1 : ((s.size : Int) == 1) = true := by simp [h1]
      have HN : Hid (okNum s = true) := Lib.hid (by unfold okNum; rw [hp]; simp [h1])
      go_wp2
      go_ret
      exact ⟨ret_bool HN.out.symm, hf⟩
    · have e1 : ((s.size : Int) == 1) = false := by simp; omega
      have HB := byteAt_eq h0
      by_cases h48 : byteAt s 0 = 48
      · have e2 : (((s[0]'h0).toNat : Int) != 48) = false := by rw [HB, h48]; rfl
        have HN : Hid (okNum s = false) := Lib.hid (by unfold okNum; rw [hp]; simp [h1, h48])
        clear HB h48
        go_wp2
        go_ret
        exact ⟨ret_bool HN.out.symm, hf⟩
      · have e2 : (((s[0]'h0).toNat : Int) != 48) = true := by rw [HB]; simpa using h48
        have HN : Hid (okNum s = true) := Lib.hid (by unfold okNum; rw [hp]; simp [h1, h48])
        clear HB h48
        go_wp2
        go_ret
        exact ⟨ret_bool HN.out.symm, hf⟩
  | range =>
    obtain ⟨tp, p, hv⟩ := ht
    have HN : Hid (okNum s = false) := Lib.hid (by unfold okNum; rw [hp]; rfl)
    go_enter Tryz.func181, Tryz.ntmps181
    go_wp2_with fail
    refine (Tryz.strconv_ParseInt_10_at64_range_var s (by omega) hp tp p _ hv).mono ?_
    rintro e w1 ⟨N, rfl, _, _, hbel⟩
    have hf : Fr [] w w1 := Fr.of_below hbel
    go_wp2
    go_ret
    exact ⟨ret_bool HN.out.symm, hf⟩
  | _ => have h1 := no_syn h0 hd; rw [hp] at h1; cases h1
def pk (n : Nat) : Int := if n = 0 then 1 else if n = 2 then 2 else 3
def RetOne (w : World) (o : Option Wd) (e : Ending) (w' : World) : Prop :=
 ∃ a0 a1 a2, e = .returned (.tuple #[.agg #[.int .u8 a0, .string a1, .int .i64 a2], .bool o.isSome]) ∧ Fr [] w w' ∧ ∀ wd, o = some wd → a0 = pk wd.what ∧ a1 = wd.text ∧ a2 = wd.place
theorem Blk.three {w : World} {g : Nat} {t : TypeId} {x0 x1 x2 : Value} (h : Blk w g t #[x0, x1, x2]) (a0 a1 a2 : Value) :
  Blk (((w.setCell ⟨g, 0, none⟩ a0).setCell ⟨g, 1, none⟩ a1).setCell ⟨g, 2, none⟩ a2) g t #[a0, a1, a2] := ((h.set_ 0 a0).set_ 1 a1).set_ 2 a2
theorem fr_three {S : List Nat} {w w1 : World} (h : Fr S w w1) {g : Nat} (hg : g ∈ S ∨ w.heap.size ≤ g) (a0 a1 a2 : Value) :
  Fr S w (((w1.setCell ⟨g, 0, none⟩ a0).setCell ⟨g, 1, none⟩ a1).setCell ⟨g, 2, none⟩ a2) :=
 ((h.setCell (p := ⟨g, 0, none⟩) hg _).setCell (p := ⟨g, 1, none⟩) hg _).setCell (p := ⟨g, 2, none⟩) hg _
theorem results_word {fn : Func} {p t : Tmp} (h : fn.results = #[.cell p 183, .tmp t]) (tmps : Array Value) (w : World) (g : Nat) {a0 a1 a2 : Value} (hp : tmps.getD p undef = .pointer (some ⟨g, 0, none⟩)) (hb : Blk w g 183 #[a0, a1, a2]) :
  (results fn tmps).run Tryz.prog w = .ok (.tuple #[.agg #[a0, a1, a2], tmps.getD t undef]) w := by
 have c0 := hb.cell 0 rfl
 have c1 := hb.cell 1 rfl
 have c2 := hb.cell 2 rfl
 simp only [Array.getD_eq_getD_getElem?] at hp
 simp [results, h, go_sem, hp, c0, c1, c2]
theorem endOf_all_ {p : Int → Bool} {s : ByteArray} : ∀ (n k j : Nat), s.size - k = n → k ≤ j → j < endOf p s k → p (byteAt s j) = true
  | 0, k, j, hn, h1, h2 => by
    rw [endOf_end (by omega)] at h2
    omega
  | n + 1, k, j, hn, h1, h2 => by
    cases h : p (byteAt s k) with
    | false =>
      rw [endOf_stop (by omega) h] at h2
      omega
    | true =>
      rcases Nat.eq_or_lt_of_le h1 with h3 | h3
      · rw [← h3]; exact h
      · rw [endOf_step (by omega) h] at h2
        exact endOf_all_ n (k + 1) j (by omega) h3 h2
theorem byteAt_extract {s : ByteArray} {a b j : Nat} (hb : b ≤ s.size) (hj : j < b - a) : byteAt (s.extract a b) j = byteAt s (a + j) := by
 unfold byteAt
 have h1 : (s.extract a b).data = s.data.extract a b := by simp
 rw [h1, Array.getElem?_extract]
 have h2 : s.data.size = s.size := rfl
 rw [if_pos (by omega)]
theorem endOf_all {p : Int → Bool} {s : ByteArray} {k d : Nat} (hd : endOf p s k = k + d) (j : Nat) (hj : j < (s.extract k (k + d)).size) : p (byteAt (s.extract k (k + d)) j) = true := by
 rw [ByteArray.size_extract] at hj
 rcases Nat.lt_or_ge s.size (k + d) with h | h
 ·rcases Nat.lt_or_ge s.size k with h2 | h2
  ·omega
  ·have := (endOf_le (p := p) h2).2
   omega
 ·rw [byteAt_extract h (by omega)]
  exact endOf_all_ _ k (k + j) rfl (by omega) (by omega)
def markFrom (s : ByteArray) (k : Nat) (l : List ByteArray) : Option Wd :=
 match l.find? (fun m => m.data.toList.isPrefixOf (s.extract k s.size).data.toList) with
 | some m => some ⟨3, m, k⟩
 | none => none
theorem one_mark {s : ByteArray} {k : Nat} (h1 : lowB (byteAt s k) = false) (h2 : ¬ digB (byteAt s k) = true) : markFrom s k (mkL.drop 0) = oneW s k := by
 unfold oneW
 rw [if_neg (by simp [h1]), if_neg h2]
 rfl
theorem mark_hit {s : ByteArray} {k m : Nat} {x : ByteArray} {r : Option Wd} (HE : Hid (markFrom s k (mkL.drop m) = r)) (h : Hid (mkL[m]? = some x)) (hp : x.data.toList.isPrefixOf (s.extract k s.size).data.toList = true) : r = some ⟨3, x, k⟩ := by
 rw [← HE.out, drop_at h]
 unfold markFrom
 simp only [List.find?_cons, hp]
theorem mark_on {s : ByteArray} {k m : Nat} {x : ByteArray} {r : Option Wd} (HE : Hid (markFrom s k (mkL.drop m) = r)) (h : Hid (mkL[m]? = some x)) (hp : x.data.toList.isPrefixOf (s.extract k s.size).data.toList = false) : Hid (markFrom s k (mkL.drop (m + 1)) = r) := by
 show _ = _
 rw [← HE.out, drop_at h]
 unfold markFrom
 simp only [List.find?_cons, hp]
theorem marks_any (w : World) : Calls Tryz.prog 182 #[] w (RetRd w .string mkL) := by
 go_enter Tryz.func182, Tryz.ntmps182
 go_wp2
 go_ret
 exact ⟨_, _, rfl, frx, Rd.lit w 9 .string mkL _ rfl (by simp [mkL])⟩
set_option maxRecDepth 20000 in
set_option maxHeartbeats 3200000 in
theorem one_any (s : ByteArray) (k : Nat) (w : World) (hk : k < s.size) (hmax : s.size ≤ 1000000) (ht : Tab w) :
  Calls Tryz.prog 134 #[.string s, .int .i64 k] w (RetOne w (oneW s k)) := by
 have hB := byteAt_eq hk
 have HB := Lib.hid hB
 clear hB
 obtain ⟨V, hV⟩ : ∃ V, V = w.alloc (.cells #[.int .u8 0, .string ⟨#[]⟩, .int .i64 0] 183) := ⟨_, rfl⟩
 have hf0 : Fr [] w V := by rw [hV]; exact frx
 have hB0 : Blk V w.heap.size 183 #[.int .u8 0, .string ⟨#[]⟩, .int .i64 0] := by rw [hV]; exact Blk.new _ _ _ _ rfl
 have HV := Lib.hid hV.symm
 clear hV
 obtain ⟨b, hb⟩ : ∃ b, lowB (byteAt s k) = b := ⟨_, rfl⟩
 cases b
 ·have he := endOf_le (p := digB) (s := s) (k := k) (by omega)
  by_cases hdg : digB (byteAt s k) = true
  ·obtain ⟨d, hd⟩ : ∃ d, endOf digB s k = k + d := ⟨endOf digB s k - k, by omega⟩
   have HS : Hid (∀ w, Calls Tryz.prog 178 #[.string s, .int .i64 k, .func (.func 180) #[] #[]] w (RetQ w (.int .i64 (d : Nat)))) := Lib.hid (fun w => by
    have := stretch_any digB _ (fun _ _ => rfl) digitF_any s k w (by omega) hmax
    rw [hd, Nat.add_sub_cancel_left] at this
    exact this)
   rw [hd] at he
   have h1 : (k : Int) + d ≤ s.size := by omega
   have h2 : (0 : Int) ≤ k := by omega
   have h3 : (k : Int) ≤ k + d := by omega
   have hsz : (s.extract k (k + d)).size = d := by rw [ByteArray.size_extract]; omega
   have hdd : ∀ j, j < (s.extract k (k + d)).size → digB (byteAt (s.extract k (k + d)) j) = true := endOf_all hd
   have hdp : 0 < d := by
    have := endOf_lt (p := digB) hk hdg
    omega
   obtain ⟨bk, hbk⟩ : ∃ b, okNum (s.extract k (k + d)) = b := ⟨_, rfl⟩
   have HAL : Hid (∀ w, Tab w → Calls Tryz.prog 181 #[.string (s.extract k (k + d))] w (RetV w (.bool bk))) := Lib.hid (fun w h => hbk ▸ allowed_any _ w (by omega) (by omega) hdd h)
   have HO1 : Hid (oneW s k = if bk then some ⟨2, s.extract k (k + d), k⟩ else none) := Lib.hid (by unfold oneW; rw [if_neg (by simp [hb]), if_pos hdg, hd]; simp only; rw [hbk])
   have hc1 : decide (48 ≤ byteAt s k) = true := by simp [digB] at hdg; simpa using hdg.1
   have hc2 : decide (byteAt s k ≤ 57) = true := by simp [digB] at hdg; simpa using hdg.2
   clear hbk hd hdd
   go_enter Tryz.func134, Tryz.ntmps134
   go_wp2_with fail
   refine (letter_any _ _).mono ?_
   rw [HB.out, hb]
   rintro e w1 ⟨rfl, n1, rfl⟩
   go_wp2_with fail
   rw [HV.out]
   refine (HS.out _).mono ?_
   rintro e w1 ⟨rfl, n2, rfl⟩
   go_wp2_with fail
   refine (HAL.out _ (ht.fr (hf0.drewN _))).mono ?_
   rintro e w3 ⟨rfl, hf3⟩
   have hf4 : Fr [] w w3 := (hf0.drewN _).trans hf3
   have hB3 : Blk w3 w.heap.size 183 #[.int .u8 0, .string ⟨#[]⟩, .int .i64 0] := (hB0.drewN _).fr hf3 (by simp)
   have v0 : w3.cell? ⟨w.heap.size, 0, none⟩ = some (.int .u8 0) := hB3.cell 0 rfl
   have z0 := hB3.frozen 0
   have v1 : w3.cell? ⟨w.heap.size, 1, none⟩ = some (.string ⟨#[]⟩) := hB3.cell 1 rfl
   have z1 := hB3.frozen 1
   have v2 : w3.cell? ⟨w.heap.size, 2, none⟩ = some (.int .i64 0) := hB3.cell 2 rfl
   have z2 := hB3.frozen 2
   go_wp2_with fail
   refine bodyPost_ret (results_word rfl _ _ w.heap.size rfl (hB3.three _ _ _)) rfl ?_
   rw [HO1.out]
   cases bk
   ·exact ⟨_, _, _, rfl, fr_three hf4 (.inr (Nat.le_refl _)) _ _ _, fun wd h => by cases h⟩
   ·exact ⟨_, _, _, rfl, fr_three hf4 (.inr (Nat.le_refl _)) _ _ _, fun wd h => by cases h; exact ⟨rfl, rfl, rfl⟩⟩
  ·have hc : ¬ 48 ≤ byteAt s k ∨ (48 ≤ byteAt s k ∧ ¬ byteAt s k ≤ 57) := by
    simp [digB] at hdg
    omega
   have HO := Lib.hid (one_mark (k := k) hb hdg)
   have hcut : ByteArray.size (s.extract k s.size) ≤ 1000000 := by rw [ByteArray.size_extract]; omega
   have h1 : (k : Int) ≤ s.size := by omega
   have h2 : (0 : Int) ≤ k := by omega
   have hgo : ∀ (hc1 : decide (48 ≤ byteAt s k) = false ∨ (decide (48 ≤ byteAt s k) = true ∧ decide (byteAt s k ≤ 57) = false)), True := fun _ => trivial
   clear hgo
   rcases hc with hc | ⟨hc, hc'⟩
   ·have hc1 : decide (48 ≤ byteAt s k) = false := by simpa using hc
    clear hc
    go_enter Tryz.func134, Tryz.ntmps134
    go_wp2_with fail
    refine (letter_any _ _).mono ?_
    rw [HB.out, hb]
    rintro e w1 ⟨rfl, n1, rfl⟩
    go_wp2_with fail
    rw [HV.out]
    refine (marks_any _).mono ?_
    rintro e w3 ⟨A3, c3, rfl, hf3, hr3⟩
    have hf4 : Fr [] w w3 := (hf0.drewN _).trans hf3
    have hB3 : Blk w3 w.heap.size 183 #[.int .u8 0, .string ⟨#[]⟩, .int .i64 0] := (hB0.drewN _).fr hf3 (by simp)
    go_wp2_with fail
    go_loopw [59] (fun i wr => ∃ m : Nat, m ≤ mkL.length ∧ i = .int .i64 m ∧ Hid (markFrom s k (mkL.drop m) = oneW s k) ∧ Fr [] w3 wr) (fun i _ => mkL.length - (intOf i).toNat)
    case atStart => exact ⟨0, Nat.zero_le _, rfl, HO, Fr.refl _ _⟩
    case round =>
     obtain ⟨m, hm, rfl, HE, hf⟩ := hrel
     have hB4 : Blk wr w.heap.size 183 #[.int .u8 0, .string ⟨#[]⟩, .int .i64 0] := hB3.fr hf (by simp)
     have hr4 := hr3.fr0 hf
     have hm24 : m ≤ 24 := by
      have h : mkL.length = 24 := rfl
      omega
     have hf5 := hf4.trans hf
     have v0 : wr.cell? ⟨w.heap.size, 0, none⟩ = some (.int .u8 0) := hB4.cell 0 rfl
     have z0 := hB4.frozen 0
     have v1 : wr.cell? ⟨w.heap.size, 1, none⟩ = some (.string ⟨#[]⟩) := hB4.cell 1 rfl
     have z1 := hB4.frozen 1
     have v2 : wr.cell? ⟨w.heap.size, 2, none⟩ = some (.int .i64 0) := hB4.cell 2 rfl
     have z2 := hB4.frozen 2
     by_cases hlt : m < mkL.length
     ·obtain ⟨b1, o1, x, rfl, hx, hc1⟩ := hr4.at_ hlt
      obtain ⟨q, hq⟩ : ∃ q, Lib.hasPrefix (s.extract k s.size).data.toList x.data.toList = q := ⟨_, rfl⟩
      have HQ := Lib.hid hq
      have HE2 := Lib.hid (fun h => mark_hit (s := s) (k := k) HE hx h)
      have HE3 := Lib.hid (fun h => mark_on (s := s) (k := k) HE hx h)
      have hq2 : x.data.toList.isPrefixOf (s.extract k s.size).data.toList = q := hq
      clear hq
      go_wp2_with fail
      refine (Tryz.strings_HasPrefix _ _ _).mono ?_
      rw [HQ.out]
      rintro e wa ⟨rfl, rfl⟩
      cases q
      ·have HN := HE3.out hq2
       go_wp2_with fail
       go_roundw
       case rel => exact ⟨m + 1, by omega, by go_num, HN, hf⟩
       case measure => simp [intOf]; omega
      ·have HN := Lib.hid (HE2.out hq2)
       clear hq2
       go_wp2_with fail
       refine bodyPost_ret (results_word rfl _ _ w.heap.size rfl (hB4.three _ _ _)) rfl ?_
       rw [HN.out]
       exact ⟨_, _, _, rfl, fr_three hf5 (.inr (Nat.le_refl _)) _ _ _, fun wd h => by cases h; exact ⟨rfl, rfl, rfl⟩⟩
     ·have hall : Hid (oneW s k = none) := Lib.hid (by rw [← HE.out, List.drop_of_length_le (by omega)]; rfl)
      go_wp2_with fail
      refine bodyPost_ret (results_word rfl _ _ w.heap.size rfl (hB4.three _ _ _)) rfl ?_
      rw [hall.out]
      exact ⟨_, _, _, rfl, fr_three hf5 (.inr (Nat.le_refl _)) _ _ _, fun wd h => by cases h⟩
   ·have hc1 : decide (48 ≤ byteAt s k) = true := by simpa using hc
    have hc2 : decide (byteAt s k ≤ 57) = false := by simpa using hc'
    clear hc hc'
    go_enter Tryz.func134, Tryz.ntmps134
    go_wp2_with fail
    refine (letter_any _ _).mono ?_
    rw [HB.out, hb]
    rintro e w1 ⟨rfl, n1, rfl⟩
    go_wp2_with fail
    rw [HV.out]
    refine (marks_any _).mono ?_
    rintro e w3 ⟨A3, c3, rfl, hf3, hr3⟩
    have hf4 : Fr [] w w3 := (hf0.drewN _).trans hf3
    have hB3 : Blk w3 w.heap.size 183 #[.int .u8 0, .string ⟨#[]⟩, .int .i64 0] := (hB0.drewN _).fr hf3 (by simp)
    go_wp2_with fail
    go_loopw [59] (fun i wr => ∃ m : Nat, m ≤ mkL.length ∧ i = .int .i64 m ∧ Hid (markFrom s k (mkL.drop m) = oneW s k) ∧ Fr [] w3 wr) (fun i _ => mkL.length - (intOf i).toNat)
    case atStart => exact ⟨0, Nat.zero_le _, rfl, HO, Fr.refl _ _⟩
    case round =>
     obtain ⟨m, hm, rfl, HE, hf⟩ := hrel
     have hB4 : Blk wr w.heap.size 183 #[.int .u8 0, .string ⟨#[]⟩, .int .i64 0] := hB3.fr hf (by simp)
     have hr4 := hr3.fr0 hf
     have hm24 : m ≤ 24 := by
      have h : mkL.length = 24 := rfl
      omega
     have hf5 := hf4.trans hf
     have v0 : wr.cell? ⟨w.heap.size, 0, none⟩ = some (.int .u8 0) := hB4.cell 0 rfl
     have z0 := hB4.frozen 0
     have v1 : wr.cell? ⟨w.heap.size, 1, none⟩ = some (.string ⟨#[]⟩) := hB4.cell 1 rfl
     have z1 := hB4.frozen 1
     have v2 : wr.cell? ⟨w.heap.size, 2, none⟩ = some (.int .i64 0) := hB4.cell 2 rfl
     have z2 := hB4.frozen 2
     by_cases hlt : m < mkL.length
     ·obtain ⟨b1, o1, x, rfl, hx, hc1⟩ := hr4.at_ hlt
      obtain ⟨q, hq⟩ : ∃ q, Lib.hasPrefix (s.extract k s.size).data.toList x.data.toList = q := ⟨_, rfl⟩
      have HQ := Lib.hid hq
      have HE2 := Lib.hid (fun h => mark_hit (s := s) (k := k) HE hx h)
      have HE3 := Lib.hid (fun h => mark_on (s := s) (k := k) HE hx h)
      have hq2 : x.data.toList.isPrefixOf (s.extract k s.size).data.toList = q := hq
      clear hq
      go_wp2_with fail
      refine (Tryz.strings_HasPrefix _ _ _).mono ?_
      rw [HQ.out]
      rintro e wa ⟨rfl, rfl⟩
      cases q
      ·have HN := HE3.out hq2
       go_wp2_with fail
       go_roundw
       case rel => exact ⟨m + 1, by omega, by go_num, HN, hf⟩
       case measure => simp [intOf]; omega
      ·have HN := Lib.hid (HE2.out hq2)
       clear hq2
       go_wp2_with fail
       refine bodyPost_ret (results_word rfl _ _ w.heap.size rfl (hB4.three _ _ _)) rfl ?_
       rw [HN.out]
       exact ⟨_, _, _, rfl, fr_three hf5 (.inr (Nat.le_refl _)) _ _ _, fun wd h => by cases h; exact ⟨rfl, rfl, rfl⟩⟩
     ·have hall : Hid (oneW s k = none) := Lib.hid (by rw [← HE.out, List.drop_of_length_le (by omega)]; rfl)
      go_wp2_with fail
      refine bodyPost_ret (results_word rfl _ _ w.heap.size rfl (hB4.three _ _ _)) rfl ?_
      rw [hall.out]
      exact ⟨_, _, _, rfl, fr_three hf5 (.inr (Nat.le_refl _)) _ _ _, fun wd h => by cases h⟩
 ·have he := endOf_le (p := partB) (s := s) (k := k) (by omega)
  obtain ⟨d, hd⟩ : ∃ d, endOf partB s k = k + d := ⟨endOf partB s k - k, by omega⟩
  have HS : Hid (∀ w, Calls Tryz.prog 178 #[.string s, .int .i64 k, .func (.func 75) #[] #[]] w (RetQ w (.int .i64 (d : Nat)))) := Lib.hid (fun w => by
   have := stretch_any partB _ (fun _ _ => rfl) wordByte_any s k w (by omega) hmax
   rw [hd, Nat.add_sub_cancel_left] at this
   exact this)
  rw [hd] at he
  have h1 : (k : Int) + d ≤ s.size := by omega
  have h2 : (0 : Int) ≤ k := by omega
  have h3 : (k : Int) ≤ k + d := by omega
  have hsz : (s.extract k (k + d)).size = d := by rw [ByteArray.size_extract]; omega
  obtain ⟨bk, hbk⟩ : ∃ b, inS kwL (s.extract k (k + d)) = b := ⟨_, rfl⟩
  have HK := Lib.hid hbk
  have HO1 : Hid (16 < d → oneW s k = none) := Lib.hid (fun h => by unfold oneW; rw [if_pos hb, hd]; simp only; rw [if_pos (by omega)])
  have HO2 : Hid (¬ 16 < d → oneW s k = some ⟨if bk then 1 else 0, s.extract k (k + d), k⟩) := Lib.hid (fun h => by unfold oneW; rw [if_pos hb, hd]; simp only; rw [if_neg (by omega), hbk])
  clear hbk hd
  by_cases hlong : 16 < d
  ·have v0 : V.cell? ⟨w.heap.size, 0, none⟩ = some (.int .u8 0) := hB0.cell 0 rfl
   have z0 := hB0.frozen 0
   have v1 : V.cell? ⟨w.heap.size, 1, none⟩ = some (.string ⟨#[]⟩) := hB0.cell 1 rfl
   have z1 := hB0.frozen 1
   have v2 : V.cell? ⟨w.heap.size, 2, none⟩ = some (.int .i64 0) := hB0.cell 2 rfl
   have z2 := hB0.frozen 2
   go_enter Tryz.func134, Tryz.ntmps134
   go_wp2_with fail
   refine (letter_any _ _).mono ?_
   rw [HB.out, hb]
   rintro e w1 ⟨rfl, n1, rfl⟩
   go_wp2_with fail
   rw [HV.out]
   refine (HS.out _).mono ?_
   rintro e w1 ⟨rfl, n2, rfl⟩
   go_wp2_with fail
   refine bodyPost_ret (results_word rfl _ _ w.heap.size rfl (Blk.drewN (hB0.three _ _ _) _)) rfl ?_
   rw [HO1.out hlong]
   exact ⟨_, _, _, rfl, (fr_three hf0 (.inr (Nat.le_refl _)) _ _ _).drewN _, fun wd h => by cases h⟩
  ·go_enter Tryz.func134, Tryz.ntmps134
   go_wp2_with fail
   refine (letter_any _ _).mono ?_
   rw [HB.out, hb]
   rintro e w1 ⟨rfl, n1, rfl⟩
   go_wp2_with fail
   rw [HV.out]
   refine (HS.out _).mono ?_
   rintro e w1 ⟨rfl, n2, rfl⟩
   go_wp2_with fail
   refine (keyword_any _ _).mono ?_
   rw [HK.out]
   rintro e w3 ⟨rfl, hf3⟩
   have hf4 : Fr [] w w3 := (hf0.drewN _).trans hf3
   have hB3 : Blk w3 w.heap.size 183 #[.int .u8 0, .string ⟨#[]⟩, .int .i64 0] := (hB0.drewN _).fr hf3 (by simp)
   have v0 : w3.cell? ⟨w.heap.size, 0, none⟩ = some (.int .u8 0) := hB3.cell 0 rfl
   have z0 := hB3.frozen 0
   have v1 : w3.cell? ⟨w.heap.size, 1, none⟩ = some (.string ⟨#[]⟩) := hB3.cell 1 rfl
   have z1 := hB3.frozen 1
   have v2 : w3.cell? ⟨w.heap.size, 2, none⟩ = some (.int .i64 0) := hB3.cell 2 rfl
   have z2 := hB3.frozen 2
   cases bk
   ·go_wp2_with fail
    refine bodyPost_ret (results_word rfl _ _ w.heap.size rfl (hB3.three _ _ _)) rfl ?_
    rw [HO2.out hlong]
    exact ⟨_, _, _, rfl, fr_three hf4 (.inr (Nat.le_refl _)) _ _ _, fun wd h => by cases h; exact ⟨rfl, rfl, rfl⟩⟩
   ·go_wp2_with fail
    refine bodyPost_ret (results_word rfl _ _ w.heap.size rfl (hB3.three _ _ _)) rfl ?_
    rw [HO2.out hlong]
    exact ⟨_, _, _, rfl, fr_three hf4 (.inr (Nat.le_refl _)) _ _ _, fun wd h => by cases h; exact ⟨rfl, rfl, rfl⟩⟩
end

/- cut of the program: the words of a text. -/
section
open Go.RowKit
set_option linter.unusedSimpArgs false
abbrev wdL (w : Wd) : List Value := [.int .u8 (pk w.what), .string w.text, .int .i64 w.place]
abbrev endL (e : Nat) : List Value := [.int .u8 0, .string ⟨#[]⟩, .int .i64 e]
theorem elemWd : Elem Tryz.prog 83 183 (.agg #[.int .u8 0, .string ⟨#[]⟩, .int .i64 0]) 3 32 := ⟨Tryz.underlying83, by kernel_rfl, rfl, by omega, by omega⟩
structure RWd (w : World) (A : Option Addr) (c : Nat) (ws : List Wd) (e : Nat) : Prop where
 cells : Cells w A (ws.flatMap wdL ++ endL e)
 le : ws.length + 1 ≤ c
 cap : c ≤ maxLen
theorem RWd.fr {S : List Nat} {w w' : World} {A : Option Addr} {c e : Nat} {ws : List Wd} (h : RWd w A c ws e) (hf : Fr S w w') (hn : ∀ a, A = some a → a.block ∉ S) : RWd w' A c ws e := ⟨h.cells.fr hf hn, h.le, h.cap⟩
theorem RWd.fr0 {w w' : World} {A : Option Addr} {c e : Nat} {ws : List Wd} (h : RWd w A c ws e) (hf : Fr [] w w') : RWd w' A c ws e := h.fr hf (by simp)
theorem own_le {w : World} {base n c sz : Nat} {e : TypeId} {A : Option Addr} {ys : List Value} (h : w.ownsRow base e sz (.slice A n c) n ys) : n ≤ c ∧ c ≤ maxLen := by
 rcases h.2 with ⟨he, hz⟩ | ⟨g, cap, cur, he, _, _, hnc, hcm, _⟩
 ·injection he with e1 e2 e3
  subst e2 e3
  exact ⟨Nat.le_refl _, by unfold maxLen; omega⟩
 ·injection he with e1 e2 e3
  subst e3
  exact ⟨hnc, hcm⟩
def RetWords (w : World) (s : ByteArray) (r : List Wd ⊕ Nat) (e : Ending) (w' : World) : Prop :=
 match r with
 | .inl ws => ∃ A c, e = .returned (.tuple #[.slice A (ws.length + 1) c, .int .i64 (-1)]) ∧ Fr [] w w' ∧ RWd w' A c ws s.size ∧ (∀ a, A = some a → w.heap.size ≤ a.block) ∧ ws.length ≤ s.size
 | .inr k => e = .returned (.tuple #[.slice none 0 0, .int .i64 k]) ∧ Fr [] w w' ∧ k ≤ s.size
theorem low_part {c : Int} (h : lowB c = true) : partB c = true := by
 simp [lowB] at h
 simp [partB, h]
theorem oneW_pos {s : ByteArray} {k : Nat} {wd : Wd} (hk : k < s.size) (h : oneW s k = some wd) : 0 < wd.text.size ∧ k + wd.text.size ≤ s.size := by
  unfold oneW at h
  cases hl : lowB (byteAt s k) with
  | true =>
    rw [if_pos hl] at h
    have h1 := endOf_lt (p := partB) hk (low_part hl)
    have h2 := (endOf_le (p := partB) (s := s) (k := k) (by omega)).2
    simp only at h
    split at h
    · cases h
    · cases h
      simp only [ByteArray.size_extract]
      omega
  | false =>
    rw [if_neg (by simp [hl])] at h
    cases hd : digB (byteAt s k) with
    | true =>
      rw [if_pos hd] at h
      have h1 := endOf_lt (p := digB) hk hd
      have h2 := (endOf_le (p := digB) (s := s) (k := k) (by omega)).2
      simp only at h
      split at h
      · cases h
        simp only [ByteArray.size_extract]
        omega
      · cases h
    | false =>
      rw [if_neg (by simp [hd])] at h
      split at h
      · rename_i m hm
        cases h
        have h1 := List.find?_some hm
        have h2 := List.mem_of_find?_eq_some hm
        have h3 : ∀ m ∈ mkL, 0 < m.size := by decide
        refine ⟨h3 _ h2, ?_⟩
        have h4 := (List.isPrefixOf_iff_prefix.1 h1).length_le
        have h5 : (s.extract k s.size).data.toList.length = (s.extract k s.size).size := by rw [Array.length_toList]; rfl
        have h6 : m.data.toList.length = m.size := by rw [Array.length_toList]; rfl
        rw [h5, h6, ByteArray.size_extract] at h4
        show k + m.size ≤ s.size
        omega
      · cases h
theorem words_on {s : ByteArray} {n k : Nat} {acc : List Wd} {wd : Wd} {r : List Wd ⊕ Nat} (hn : s.size - k ≤ n) (hk : k < s.size) (HE : Hid (wordsN s n k acc = r)) (h : oneW s k = some wd) :
  Hid (wordsN s (n - 1) (skipTo s (k + wd.text.size)) (acc ++ [wd]) = r) := by
 show _ = _
 rw [← HE.out, show n = (n - 1) + 1 by omega, wordsN, if_pos hk, h]
 rfl
theorem words_bad {s : ByteArray} {n k : Nat} {acc : List Wd} {r : List Wd ⊕ Nat} (hn : s.size - k ≤ n) (hk : k < s.size) (HE : Hid (wordsN s n k acc = r)) (h : oneW s k = none) : r = .inr k := by
 rw [← HE.out, show n = (n - 1) + 1 by omega, wordsN, if_pos hk, h]
theorem words_end {s : ByteArray} {n k : Nat} {acc : List Wd} {r : List Wd ⊕ Nat} (hk : s.size ≤ k) (HE : Hid (wordsN s n k acc = r)) : r = .inl acc := by
 rw [← HE.out]
 cases n with
 | zero => rfl
 | succ n => rw [wordsN, if_neg (by omega)]
set_option maxRecDepth 20000 in
set_option maxHeartbeats 3200000 in
theorem cut_any (s : ByteArray) (w : World) (hmax : s.size ≤ 1000000) (ht : Tab w) :
    Calls Tryz.prog 64 #[.string s] w (RetWords w s (wordsW s)) := by
  obtain ⟨r, hr⟩ : ∃ r, wordsW s = r := ⟨_, rfl⟩
  have HR : Hid (wordsN s s.size (skipTo s 0) [] = r) := hr
  rw [hr]
  clear hr
  have h0 := skip_le (s := s) (k := 0) (by omega)
  have hb0 := fun w => blanks_any s 0 w (by omega) hmax
  go_enter Tryz.func64, Tryz.ntmps64
  go_wp2_with fail
  refine (hb0 _).mono ?_
  rintro e w1 ⟨rfl, n1, rfl⟩
  clear hb0
  go_wp2_with fail
  go_loopw [4, 5] (fun v i wr => ∃ (k n : Nat) (acc : List Wd) (A : Option Addr) (c : Nat), k ≤ s.size ∧ s.size - k ≤ n ∧ acc.length ≤ k ∧ i = .int .i64 k ∧ v = .slice A acc.length c ∧ wr.ownsRow w.heap.size 183 3 (.slice A acc.length c) acc.length (acc.flatMap wdL) ∧ Hid (wordsN s n k acc = r) ∧ Fr [] w wr) (fun _ i _ => s.size - (intOf i).toNat)
  case atStart => exact ⟨skipTo s 0, s.size, [], none, 0, h0.2, by omega, Nat.zero_le _, rfl, rfl, World.ownsRow_nil _ _ _ _, HR, frx⟩
  case round =>
    obtain ⟨k, n, acc, A, c, hk, hn, hal, rfl, rfl, hown, HE, hf⟩ := hrel
    by_cases hlt : k < s.size
    · obtain ⟨o, ho⟩ : ∃ o, oneW s k = o := ⟨_, rfl⟩
      have HO := Lib.hid (ho ▸ one_any s k wr hlt hmax (ht.fr hf))
      cases o with
      | none =>
        have HX := words_bad hn hlt HE ho
        subst HX
        clear ho
        go_wp2_with fail
        refine HO.out.mono ?_
        rintro e w2 ⟨a0, a1, a2, rfl, hf2, _⟩
        go_wp2_with fail
        go_ret2
        exact ⟨rfl, (hf.trans hf2).alloc _, hk⟩
      | some wd =>
        obtain ⟨hp1, hp2⟩ := oneW_pos hlt ho
        have hs := skip_le (s := s) (k := k + wd.text.size) hp2
        have HX := words_on hn hlt HE ho
        clear ho
        go_wp2_with fail
        refine HO.out.mono ?_
        rintro e w2 ⟨a0, a1, a2, rfl, hf2, hw⟩
        obtain ⟨rfl, rfl, rfl⟩ := hw wd rfl
        have hF2 := hf.trans hf2
        have hB6 : Blk ((w2.alloc (.cells #[.int .u8 (pk wd.what), .string wd.text, .int .i64 wd.place] 183)).alloc (.cells #[.int .u8 (pk wd.what), .string wd.text, .int .i64 wd.place] 183)) w2.heap.size 183 #[.int .u8 (pk wd.what), .string wd.text, .int .i64 wd.place] := (Blk.new _ _ _ _ rfl).alloc _
        have hB7 : Blk ((w2.alloc (.cells #[.int .u8 (pk wd.what), .string wd.text, .int .i64 wd.place] 183)).alloc (.cells #[.int .u8 (pk wd.what), .string wd.text, .int .i64 wd.place] 183)) (w2.heap.size + 1) 183 #[.int .u8 (pk wd.what), .string wd.text, .int .i64 wd.place] := Blk.new _ _ _ _ (by simp)
        have hc7 : Cells ((w2.alloc (.cells #[.int .u8 (pk wd.what), .string wd.text, .int .i64 wd.place] 183)).alloc (.cells #[.int .u8 (pk wd.what), .string wd.text, .int .i64 wd.place] 183)) (some ⟨w2.heap.size + 1, 0, none⟩) (wdL wd) := fun _ => ⟨w2.heap.size + 1, 0, rfl, fun j u hu => by rw [Nat.zero_add]; exact hB7.cell j (by simpa using hu)⟩
        have ho7 := ((own_fr hown hf2 (by simp)).alloc (.cells #[.int .u8 (pk wd.what), .string wd.text, .int .i64 wd.place] 183)).alloc (.cells #[.int .u8 (pk wd.what), .string wd.text, .int .i64 wd.place] 183)
        have hsz := hf2.size
        have hwz := hf.size
        have hn6 : some w2.heap.size ≠ (Value.slice A acc.length c).ownBlock := fun e => by
          have := (hown.lt _ e.symm).2
          omega
        have hs1 := fun w => blanks_any s (k + wd.text.size) w hp2 hmax
        go_wp2_with (at_builtin; refine wpList_append_g rfl (.tmp 26) (.tmp 28) _ rfl elemWd (.slice A acc.length c) (acc.flatMap wdL) rfl ho7 (some ⟨w2.heap.size + 1, 0, none⟩) 1 1 (wdL wd) rfl hc7 rfl (Nat.le_refl _) ?c1 ?c2 ?c3 ?_)
        case c1 => intro u hu; simp at hu; rcases hu with rfl | rfl | rfl <;> rfl
        case c2 => omega
        case c3 => simp; omega
        intro A3 c3 w3 ho3 hg3 _
        have hB8 := hB6.grown hg3 hn6
        have q1 : w3.cell? ⟨w2.heap.size, 1, none⟩ = some (.string wd.text) := hB8.cell 1 rfl
        have hF3 : Fr [] w w3 := Fr.app ((hF2.alloc _).alloc _) ho7 (Nat.le_refl _) hg3
        clear hB6 hB7 hc7 ho7
        go_wp2_with fail
        refine (hs1 _).mono ?_
        rintro e w4 ⟨rfl, n4, rfl⟩
        go_wp2_with fail
        go_roundw
        case rel => exact ⟨skipTo s (k + wd.text.size), n - 1, acc ++ [wd], A3, c3, hs.2, by omega, by simp; omega, rfl, by simp, own_drewN (by rw [List.length_append, List.flatMap_append]; simpa using ho3) n4, HX, hF3.drewN n4⟩
        case measure => simp [intOf]; omega
    · have HX := words_end (by omega) HE
      subst HX
      have hB7 : Blk (wr.alloc (.cells #[.int .u8 0, .string ⟨#[]⟩, .int .i64 s.size] 183)) wr.heap.size 183 #[.int .u8 0, .string ⟨#[]⟩, .int .i64 s.size] := Blk.new _ _ _ _ rfl
      have hc7 : Cells (wr.alloc (.cells #[.int .u8 0, .string ⟨#[]⟩, .int .i64 s.size] 183)) (some ⟨wr.heap.size, 0, none⟩) (endL s.size) := fun _ => ⟨wr.heap.size, 0, rfl, fun j u hu => by rw [Nat.zero_add]; exact hB7.cell j (by simpa using hu)⟩
      have ho7 := hown.alloc (.cells #[.int .u8 0, .string ⟨#[]⟩, .int .i64 s.size] 183)
      have hwz := hf.size
      go_wp2_with (at_builtin; refine wpList_append_g rfl (.tmp 35) (.tmp 39) _ rfl elemWd (.slice A acc.length c) (acc.flatMap wdL) rfl ho7 (some ⟨wr.heap.size, 0, none⟩) 1 1 (endL s.size) rfl hc7 rfl (Nat.le_refl _) ?c1 ?c2 ?c3 ?_)
      case c1 => intro u hu; simp at hu; rcases hu with rfl | rfl | rfl <;> rfl
      case c2 => omega
      case c3 => simp; omega
      intro A3 c3 w3 ho3 hg3 hat
      have hF3 : Fr [] w w3 := Fr.app (hf.alloc _) ho7 (Nat.le_refl _) hg3
      have hle := own_le ho3
      go_wp2_with fail
      go_ret2
      exact ⟨A3, c3, rfl, hF3, ⟨Cells.of_own ho3, hle.1, hle.2⟩, fun a ha => by subst ha; exact (ho3.lt _ rfl).1, by omega⟩
end

/- The parser's small methods: peek, is, fail, take, has, name. -/
section
open Go.RowKit
set_option linter.unusedSimpArgs false
def kindAt (ws : List Wd) (i : Nat) : Int := match ws[i]? with | some w => pk w.what | none => 0
def textAt (ws : List Wd) (i : Nat) : ByteArray := match ws[i]? with | some w => w.text | none => ⟨#[]⟩
def placeAt (ws : List Wd) (e : Nat) (i : Nat) : Int := match ws[i]? with | some w => w.place | none => e
theorem flat_at (e : Nat) : ∀ (ws : List Wd) (i r : Nat), r < 3 → i ≤ ws.length → (ws.flatMap wdL ++ endL e)[i * 3 + r]? = [Value.int .u8 (kindAt ws i), .string (textAt ws i), .int .i64 (placeAt ws e i)][r]?
  | [], i, r, hr, hi => by
    obtain rfl : i = 0 := by simpa using hi
    simp [kindAt, textAt, placeAt]
  | x :: ws, 0, r, hr, hi => by
    rw [List.flatMap_cons, List.append_assoc, List.getElem?_append_left (by simp; omega)]
    simp [kindAt, textAt, placeAt]
  | x :: ws, i + 1, r, hr, hi => by
    rw [List.flatMap_cons, List.append_assoc, List.getElem?_append_right (by simp; omega)]
    have := flat_at e ws i r hr (by simpa using hi)
    simp only [List.length_cons, List.length_nil]
    rw [show (i + 1) * 3 + r - (0 + 1 + 1 + 1) = i * 3 + r by omega, this]
    simp [kindAt, textAt, placeAt]
theorem RWd.at_ {w : World} {A : Option Addr} {c e : Nat} {ws : List Wd} (h : RWd w A c ws e) {i : Nat} (hi : i ≤ ws.length) :
  ∃ b off, A = some ⟨b, off, none⟩ ∧ w.cell? ⟨b, off + i * 3, none⟩ = some (.int .u8 (kindAt ws i)) ∧ w.cell? ⟨b, off + i * 3 + 1, none⟩ = some (.string (textAt ws i)) ∧ w.cell? ⟨b, off + i * 3 + 2, none⟩ = some (.int .i64 (placeAt ws e i)) := by
 obtain ⟨b, off, hA, hc⟩ := h.cells (by simp)
 refine ⟨b, off, hA, ?_, ?_, ?_⟩
 ·have := hc (i * 3 + 0) _ (flat_at e ws i 0 (by omega) hi)
  simpa using this
 ·have := hc (i * 3 + 1) _ (flat_at e ws i 1 (by omega) hi)
  rw [← Nat.add_assoc] at this
  exact this
 ·have := hc (i * 3 + 2) _ (flat_at e ws i 2 (by omega) hi)
  rw [← Nat.add_assoc] at this
  exact this
structure PAt (pb : Nat) (A : Option Addr) (c : Nat) (ws : List Wd) (e : Nat) (w : World) (i : Nat) : Prop where
 blk : Blk w pb 190 #[.slice A (ws.length + 1) c, .int .i64 i]
 rd : RWd w A c ws e
 ne : ∀ a, A = some a → a.block ≠ pb
 le : i ≤ ws.length
section
variable {pb : Nat} {A : Option Addr} {c : Nat} {ws : List Wd} {e : Nat} {w w' : World} {i : Nat}
theorem PAt.fr0 (h : PAt pb A c ws e w i) (hf : Fr [] w w') : PAt pb A c ws e w' i := ⟨h.blk.fr hf (by simp), h.rd.fr0 hf, h.ne, h.le⟩
theorem PAt.drewN (h : PAt pb A c ws e w i) (n : Nat) : PAt pb A c ws e (w.drewN n) i := h.fr0 ((Fr.refl _ _).drewN n)
theorem PAt.set (h : PAt pb A c ws e w i) (hj : i + 1 ≤ ws.length) : PAt pb A c ws e (w.setCell ⟨pb, 1, none⟩ (.int .i64 ((i : Int) + 1))) (i + 1) :=
 ⟨h.blk.set_ 1 _, h.rd.fr ((Fr.refl [pb] w).setCell (.inl (by simp)) _) (fun a ha => by simpa using h.ne a ha), h.ne, hj⟩
end
theorem run_panic_iface {P : Program} (t : TypeId) (v : Value) (w : World) : (Instr.panic (.iface t v)).run P w = .halt (.panic (.iface t v)) w := rfl
def wrongP (n : Int) : PanicEntry := { v := .iface 187 (.agg #[.int .i64 n]), recovered := false }
def PBad (pb : Nat) (ws : List Wd) (e : Nat) (w : World) (j : Nat) (en : Ending) (w' : World) : Prop := en = .panicked [wrongP (placeAt ws e j)] ∧ Fr [pb] w w'
def PAdv (pb : Nat) (A : Option Addr) (c : Nat) (ws : List Wd) (e : Nat) (w : World) (v : Value) (j : Nat) (en : Ending) (w' : World) : Prop := en = .returned v ∧ Fr [pb] w w' ∧ PAt pb A c ws e w' j
section
variable {pb : Nat} {A : Option Addr} {c : Nat} {ws : List Wd} {e : Nat} {i : Nat}
theorem results_word1 {fn : Func} {p : Tmp} (h : fn.results = #[.cell p 183]) (tmps : Array Value) (w : World) (g : Nat) {a0 a1 a2 : Value} (hp : tmps.getD p undef = .pointer (some ⟨g, 0, none⟩)) (hb : Blk w g 183 #[a0, a1, a2]) :
  (results fn tmps).run Tryz.prog w = .ok (.agg #[a0, a1, a2]) w := by
 have c0 := hb.cell 0 rfl
 have c1 := hb.cell 1 rfl
 have c2 := hb.cell 2 rfl
 simp only [Array.getD_eq_getD_getElem?] at hp
 simp [results, h, go_sem, hp, c0, c1, c2]
set_option maxRecDepth 20000 in
set_option maxHeartbeats 1600000 in
theorem peek_any (w : World) (h : PAt pb A c ws e w i) (hm : ws.length ≤ 1000000) :
  Calls Tryz.prog 184 #[.pointer (some ⟨pb, 0, none⟩)] w (RetV w (.agg #[.int .u8 (kindAt ws i), .string (textAt ws i), .int .i64 (placeAt ws e i)])) := by
 obtain ⟨b, off, rfl, w0, w1, w2⟩ := h.rd.at_ h.le
 have hle := h.le
 have p0 : w.cell? ⟨pb, 0, none⟩ = some (.slice (some ⟨b, off, none⟩) (ws.length + 1) c) := h.blk.cell 0 rfl
 have p1 : w.cell? ⟨pb, 1, none⟩ = some (.int .i64 i) := h.blk.cell 1 rfl
 obtain ⟨V, hV⟩ : ∃ V, V = w.alloc (.cells #[.int .u8 0, .string ⟨#[]⟩, .int .i64 0] 183) := ⟨_, rfl⟩
 have hf0 : Fr [] w V := by rw [hV]; exact frx
 have hB : Blk V w.heap.size 183 #[.int .u8 0, .string ⟨#[]⟩, .int .i64 0] := by rw [hV]; exact Blk.new _ _ _ _ rfl
 have p0 := hf0.cell p0 (by simp)
 have p1 := hf0.cell p1 (by simp)
 have w0 := hf0.cell w0 (by simp)
 have w1 := hf0.cell w1 (by simp)
 have w2 := hf0.cell w2 (by simp)
 have v0 : V.cell? ⟨w.heap.size, 0, none⟩ = some (.int .u8 0) := hB.cell 0 rfl
 have v1 : V.cell? ⟨w.heap.size, 1, none⟩ = some (.string ⟨#[]⟩) := hB.cell 1 rfl
 have v2 : V.cell? ⟨w.heap.size, 2, none⟩ = some (.int .i64 0) := hB.cell 2 rfl
 have z0 := hB.frozen 0
 have z1 := hB.frozen 1
 have z2 := hB.frozen 2
 have hi1 : (i : Int) < (ws.length : Int) + 1 := by omega
 have hi2 : (0 : Int) ≤ i := by omega
 have HV := Lib.hid hV.symm
 clear hV
 go_enter Tryz.func184, Tryz.ntmps184
 go_wp2_with fail
 rw [HV.out]
 go_region
 all_goals go_wp2_with fail
 all_goals refine bodyPost_ret (results_word1 rfl _ _ w.heap.size rfl (Blk.drew (hB.three _ _ _))) rfl ?_
 all_goals exact ⟨rfl, (fr_three hf0 (.inr (Nat.le_refl _)) _ _ _).drew⟩
theorem pk_3 (n : Nat) : pk n = 3 ↔ n ≠ 0 ∧ n ≠ 2 := by
 unfold pk
 by_cases h0 : n = 0
 ·simp [h0]
 ·by_cases h2 : n = 2
  ·simp [h2]
  ·simp [h0, h2]
theorem isW_eq (ws : List Wd) (i : Nat) (s : ByteArray) : isW ws i s = (decide (kindAt ws i = 3) && decide (textAt ws i = s)) := by
  unfold isW kindAt textAt
  cases ws[i]? with
  | none => simp
  | some w =>
    simp only
    congr 1
    rw [Bool.eq_iff_iff]
    simp only [Bool.and_eq_true, bne_iff_ne, decide_eq_true_eq]
    exact (pk_3 w.what).symm
theorem nameW_eq (ws : List Wd) (i : Nat) : nameW ws i = if kindAt ws i = 1 then some (textAt ws i) else none := by
  unfold nameW kindAt textAt
  cases ws[i]? with
  | none => simp
  | some w =>
    simp only [pk]
    by_cases h0 : w.what = 0
    · simp [h0]
    · by_cases h2 : w.what = 2
      · simp [h2]
      · simp [h0, h2]
theorem numW_eq (ws : List Wd) (i : Nat) : numW ws i = if kindAt ws i = 2 then some (textAt ws i) else none := by
  unfold numW kindAt textAt
  cases ws[i]? with
  | none => simp
  | some w =>
    simp only [pk]
    by_cases h0 : w.what = 0
    · simp [h0]
    · by_cases h2 : w.what = 2
      · simp [h2]
      · simp [h0, h2]
set_option maxRecDepth 20000 in
set_option maxHeartbeats 1600000 in
theorem is_any (s : ByteArray) (w : World) (h : PAt pb A c ws e w i) (hm : ws.length ≤ 1000000) :
  Calls Tryz.prog 211 #[.pointer (some ⟨pb, 0, none⟩), .string s] w (RetV w (.bool (isW ws i s))) := by
 have HP := Lib.hid (peek_any w h hm)
 have HW := Lib.hid (isW_eq ws i s)
 generalize kindAt ws i = kd at *
 generalize textAt ws i = tx at *
 by_cases hk : kd = 3
 ·subst hk
  have hq := str_eq tx s
  have HT : Hid (isW ws i s = (tx.toList == s.toList)) := Lib.hid (by rw [HW.out, hq]; simp)
  clear hq
  go_enter Tryz.func211, Tryz.ntmps211
  go_wp2_with fail
  refine HP.out.mono ?_
  rintro en w1 ⟨rfl, hf⟩
  go_wp2_with fail
  go_ret
  exact ⟨ret_bool HT.out.symm, frx⟩
 ·have hq : (kd == 3) = false := by simpa using hk
  have HT : Hid (isW ws i s = false) := Lib.hid (by rw [HW.out]; simp [hk])
  clear hk
  go_enter Tryz.func211, Tryz.ntmps211
  go_wp2_with fail
  refine HP.out.mono ?_
  rintro en w1 ⟨rfl, hf⟩
  go_wp2_with fail
  go_ret
  exact ⟨ret_bool HT.out.symm, frx⟩
set_option maxRecDepth 20000 in
theorem fail_any (w : World) (h : PAt pb A c ws e w i) (hm : ws.length ≤ 1000000) :
  Calls Tryz.prog 212 #[.pointer (some ⟨pb, 0, none⟩)] w (PBad pb ws e w i) := by
 have HP := Lib.hid (peek_any w h hm)
 go_enter Tryz.func212, Tryz.ntmps212
 go_wp2_with fail
 refine HP.out.mono ?_
 rintro en w1 ⟨rfl, hf⟩
 have hfd : ∀ (a b c : Value) (W : World), (Instr.field 183 (.agg #[a, b, c]) 2).run Tryz.prog W = .ok c W := fun a b c W => by
  simp [Instr.field, asAgg, part]
 have hp := fun w => run_panic_iface (P := Tryz.prog) 187 (.agg #[.int .i64 (placeAt ws e i)]) w
 go_wp2_with fail
 exact ⟨rfl, rfl, hf.mono (by simp)⟩
set_option maxRecDepth 20000 in
set_option maxHeartbeats 1600000 in
theorem take_any (s : ByteArray) (w : World) (h : PAt pb A c ws e w i) (hm : ws.length ≤ 1000000) :
  Calls Tryz.prog 185 #[.pointer (some ⟨pb, 0, none⟩), .string s] w (if isW ws i s then PAdv pb A c ws e w (.tuple #[]) (i + 1) else PBad pb ws e w i) := by
 have HI := Lib.hid (is_any s w h hm)
 obtain ⟨b, hb⟩ : ∃ b, isW ws i s = b := ⟨_, rfl⟩
 have hle := h.le
 cases b
 ·rw [hb, if_neg (by simp)]
  rw [hb] at HI
  clear hb
  go_enter Tryz.func185, Tryz.ntmps185
  go_wp2_with fail
  refine HI.out.mono ?_
  rintro en w1 ⟨rfl, hf⟩
  go_wp2_with fail
  refine (fail_any _ (h.fr0 hf) hm).mono ?_
  rintro en w2 ⟨rfl, hf2⟩
  go_wp2_with fail
  exact ⟨rfl, rfl, (hf.mono (by simp)).trans hf2⟩
 ·have hlt := isW_lt hb
  rw [hb, if_pos rfl]
  rw [hb] at HI
  clear hb
  go_enter Tryz.func185, Tryz.ntmps185
  go_wp2_with fail
  refine HI.out.mono ?_
  rintro en w1 ⟨rfl, hf⟩
  have h1 := h.fr0 hf
  have p1 : w1.cell? ⟨pb, 1, none⟩ = some (.int .i64 i) := h1.blk.cell 1 rfl
  have z1 := h1.blk.frozen 1
  go_wp2_with fail
  go_end0
  exact ⟨rfl, ((hf.mono (by simp)).setCell (.inl (by simp)) _), h1.set (by omega)⟩
set_option maxRecDepth 20000 in
set_option maxHeartbeats 1600000 in
theorem has_any (s : ByteArray) (w : World) (h : PAt pb A c ws e w i) (hm : ws.length ≤ 1000000) :
  Calls Tryz.prog 213 #[.pointer (some ⟨pb, 0, none⟩), .string s] w (fun en w' => en = .returned (.bool (isW ws i s)) ∧ Fr [pb] w w' ∧ PAt pb A c ws e w' (if isW ws i s then i + 1 else i)) := by
 have HI := Lib.hid (is_any s w h hm)
 obtain ⟨b, hb⟩ : ∃ b, isW ws i s = b := ⟨_, rfl⟩
 have hle := h.le
 cases b
 ·rw [hb, if_neg (by simp)]
  rw [hb] at HI
  clear hb
  go_enter Tryz.func213, Tryz.ntmps213
  go_wp2_with fail
  refine HI.out.mono ?_
  rintro en w1 ⟨rfl, hf⟩
  go_wp2_with fail
  go_ret
  exact ⟨rfl, hf.mono (by simp), h.fr0 hf⟩
 ·have hlt := isW_lt hb
  rw [hb, if_pos rfl]
  rw [hb] at HI
  clear hb
  go_enter Tryz.func213, Tryz.ntmps213
  go_wp2_with fail
  refine HI.out.mono ?_
  rintro en w1 ⟨rfl, hf⟩
  have h1 := h.fr0 hf
  have p1 : w1.cell? ⟨pb, 1, none⟩ = some (.int .i64 i) := h1.blk.cell 1 rfl
  have z1 := h1.blk.frozen 1
  go_wp2_with fail
  go_ret
  exact ⟨rfl, ((hf.mono (by simp)).setCell (.inl (by simp)) _), h1.set (by omega)⟩
def PName (pb : Nat) (A : Option Addr) (c : Nat) (ws : List Wd) (e : Nat) (w : World) (i : Nat) (en : Ending) (w' : World) : Prop :=
 match nameW ws i with
 | some t => PAdv pb A c ws e w (.string t) (i + 1) en w'
 | none => PBad pb ws e w i en w'
set_option maxRecDepth 20000 in
set_option maxHeartbeats 1600000 in
theorem name_any (w : World) (h : PAt pb A c ws e w i) (hm : ws.length ≤ 1000000) :
  Calls Tryz.prog 186 #[.pointer (some ⟨pb, 0, none⟩)] w (PName pb A c ws e w i) := by
 have HP := Lib.hid (peek_any w h hm)
 have HW := Lib.hid (nameW_eq ws i)
 have hle := h.le
 by_cases hk : kindAt ws i = 1
 ·have hN : nameW ws i = some (textAt ws i) := by rw [HW.out, if_pos hk]
  have hlt := nameW_lt hN
  unfold PName
  rw [hN]
  rw [hk] at HP
  clear hN hk
  generalize textAt ws i = tx at *
  go_enter Tryz.func186, Tryz.ntmps186
  go_wp2_with fail
  refine HP.out.mono ?_
  rintro en w1 ⟨rfl, hf⟩
  have h1 := (h.fr0 hf).fr0 ((Fr.refl _ w1).alloc (.cells #[.int .u8 1, .string tx, .int .i64 (placeAt ws e i)] 183))
  have p1 : (w1.alloc (.cells #[.int .u8 1, .string tx, .int .i64 (placeAt ws e i)] 183)).cell? ⟨pb, 1, none⟩ = some (.int .i64 i) := h1.blk.cell 1 rfl
  have z1 := h1.blk.frozen 1
  have hB : Blk (w1.alloc (.cells #[.int .u8 1, .string tx, .int .i64 (placeAt ws e i)] 183)) w1.heap.size 183 #[.int .u8 1, .string tx, .int .i64 (placeAt ws e i)] := Blk.new _ _ _ _ rfl
  have hpl : pb < w1.heap.size := (h.fr0 hf).blk.lt
  have t1 : ∀ v, ((w1.alloc (.cells #[.int .u8 1, .string tx, .int .i64 (placeAt ws e i)] 183)).setCell ⟨pb, 1, none⟩ v).cell? ⟨w1.heap.size, 1, none⟩ = some (.string tx) := fun v => (hB.far (p := ⟨pb, 1, none⟩) (by show w1.heap.size ≠ pb; omega) v).cell 1 rfl
  go_wp2_with fail
  go_ret
  exact ⟨rfl, ((hf.mono (by simp)).setCell (p := ⟨pb, 1, none⟩) (.inl (by simp)) _).alloc _, ((h.fr0 hf).set (by omega)).fr0 ((Fr.refl _ _).alloc _)⟩
 ·have hN : nameW ws i = none := by rw [HW.out, if_neg hk]
  have hq : (kindAt ws i != 1) = true := by simpa using hk
  unfold PName
  rw [hN]
  clear hN hk
  generalize kindAt ws i = kd at *
  generalize textAt ws i = tx at *
  go_enter Tryz.func186, Tryz.ntmps186
  go_wp2_with fail
  refine HP.out.mono ?_
  rintro en w1 ⟨rfl, hf⟩
  have h1 := (h.fr0 hf).fr0 ((Fr.refl _ w1).alloc (.cells #[.int .u8 kd, .string tx, .int .i64 (placeAt ws e i)] 183))
  go_wp2_with fail
  refine (fail_any _ h1 hm).mono ?_
  rintro en w2 ⟨rfl, hf2⟩
  go_wp2_with fail
  exact ⟨rfl, rfl, (((hf.mono (by simp)).alloc _).trans hf2)⟩
end
end

/- What the parser's methods return; ended, names. -/
section
open Go.RowKit
set_option linter.unusedSimpArgs false
structure Px where
 pb : Nat
 A : Option Addr
 c : Nat
 ws : List Wd
 e : Nat
 hm : ws.length ≤ 1000000
abbrev Bel (w : World) : Nat → Prop := fun b => b < w.heap.size
abbrev Px.At (X : Px) (w : World) (i : Nat) : Prop := PAt X.pb X.A X.c X.ws X.e w i
abbrev Px.p (X : Px) : Value := .pointer (some ⟨X.pb, 0, none⟩)
def Px.Bad (X : Px) (w : World) (j : Nat) (en : Ending) (w' : World) : Prop := PBad X.pb X.ws X.e w j en w'
def Px.Nd1 (X : Px) (w : World) (x : Nd) (j : Nat) (en : Ending) (w' : World) : Prop := ∃ hd n, en = .returned (.agg (ndCells x hd)) ∧ NdH (Bel w) n w' hd x ∧ Fr [X.pb] w w' ∧ X.At w' j
def Px.Nd2 (X : Px) (w : World) (x : Nd) (b : Bool) (j : Nat) (en : Ending) (w' : World) : Prop := ∃ hd n, en = .returned (.tuple #[.agg (ndCells x hd), .bool b]) ∧ NdH (Bel w) n w' hd x ∧ Fr [X.pb] w w' ∧ X.At w' j
def Px.Ls (X : Px) (w : World) (l : List Nd) (j : Nat) (en : Ending) (w' : World) : Prop := ∃ A' c' n, en = .returned (.slice A' l.length c') ∧ LN (Bel w) n w' A' c' l ∧ Fr [X.pb] w w' ∧ X.At w' j
def Px.R1 (X : Px) (w : World) : Out → Ending → World → Prop
 | .ok l _ k => X.Nd1 w (hd1 l) k
 | .bad k => X.Bad w k
def Px.R2 (X : Px) (w : World) : Out → Ending → World → Prop
 | .ok l b k => X.Nd2 w (hd1 l) b k
 | .bad k => X.Bad w k
def Px.RL (X : Px) (w : World) : Out → Ending → World → Prop
 | .ok l _ k => X.Ls w l k
 | .bad k => X.Bad w k
abbrev zeroN : Array Value := #[.int .u8 0, .string ⟨#[]⟩, .int .i64 0, .slice none 0 0, .slice none 0 0, .slice none 0 0, .slice none 0 0]
section
variable {X : Px} {w w' : World} {j : Nat}
theorem Px.lt (h : X.At w j) : X.pb < w.heap.size := h.blk.lt
theorem At.fr {Z : List Nat} (h : X.At w j) (hf : Fr Z w w') (hZ : X.pb ∉ Z) (hA : ∀ a, X.A = some a → a.block ∉ Z) : X.At w' j := ⟨h.blk.fr hf hZ, h.rd.fr hf hA, h.ne, h.le⟩
theorem At.alt {a : Addr} (h : X.At w j) (ha : X.A = some a) : a.block < w.heap.size := by
 obtain ⟨b, off, hA, hc⟩ := h.rd.cells (by simp)
 rw [hA] at ha
 injection ha with ha
 subst ha
 have := flat_at X.e X.ws 0 0 (by omega) (Nat.zero_le _)
 exact World.block_lt_of_cell? w _ (hc 0 _ this)
theorem At.new {w1 : World} {k : Nat} {Z : List Nat} (h : X.At w j) (h1 : X.At w1 k) (hf : Fr Z w1 w') (hZ : ∀ z ∈ Z, w.heap.size ≤ z) : X.At w' k :=
 At.fr h1 hf (fun hm => by have := hZ _ hm; have := X.lt h; omega) fun a ha hm => by have := hZ _ hm; have := At.alt h ha; omega
theorem fr_node1 (w1 : World) (g : Nat) (a0 a1 a2 a3 a4 a5 a6 : Value) :
  Fr [g] w1 (((((((w1.setCell ⟨g, 0, none⟩ a0).setCell ⟨g, 1, none⟩ a1).setCell ⟨g, 2, none⟩ a2).setCell ⟨g, 3, none⟩ a3).setCell ⟨g, 4, none⟩ a4).setCell ⟨g, 5, none⟩ a5).setCell ⟨g, 6, none⟩ a6) := fr_node (Fr.refl _ _) (.inl (by simp)) _ _ _ _ _ _ _
set_option maxRecDepth 20000 in
set_option maxHeartbeats 3200000 in
theorem ended_any (x : Nd) (hd : HdN) (w : World) (h : X.At w j) :
  Calls Tryz.prog 227 #[X.p, .agg (ndCells x hd)] w (if isW X.ws j (bt [59]) then (fun en w' => en = .returned (.agg (ndCells x hd)) ∧ Fr [X.pb] w w' ∧ X.At w' (j + 1)) else X.Bad w j) := by
 obtain ⟨V, hV⟩ : ∃ V, V = (w.alloc (.cells (ndCells x hd) 46)).alloc (.cells zeroN 46) := ⟨_, rfl⟩
 have hf0 : Fr [] w V := by rw [hV]; exact frx
 have hB1 : Blk V w.heap.size 46 (ndCells x hd) := by rw [hV]; exact (Blk.new _ _ _ _ rfl).alloc _
 have hB2 : Blk V (w.heap.size + 1) 46 zeroN := by rw [hV]; exact Blk.new _ _ _ _ (by simp)
 have hpl := X.lt h
 have hV0 := h.fr0 hf0
 have HT := Lib.hid (take_any (bt [59]) V hV0 X.hm)
 have HV := Lib.hid hV.symm
 clear hV
 obtain ⟨b, hb⟩ : ∃ b, isW X.ws j (bt [59]) = b := ⟨_, rfl⟩
 rw [hb] at HT ⊢
 cases b
 ·rw [if_neg (by simp)] at HT ⊢
  clear hb
  go_enter Tryz.func227, Tryz.ntmps227
  go_wp2_with fail
  rw [HV.out]
  refine HT.out.mono ?_
  rintro en w1 ⟨rfl, hf1⟩
  go_wp2_with fail
  exact ⟨rfl, rfl, (hf0.mono (by simp)).trans hf1⟩
 ·rw [if_pos rfl] at HT ⊢
  clear hb
  go_enter Tryz.func227, Tryz.ntmps227
  go_wp2_with fail
  rw [HV.out]
  refine HT.out.mono ?_
  rintro en w1 ⟨rfl, hf1, h1⟩
  have hC1 := hB1.fr hf1 (by simp; omega)
  have hC2 := hB2.fr hf1 (by simp; omega)
  have c0 := hC1.cell 0 rfl
  have c1 := hC1.cell 1 rfl
  have c2 := hC1.cell 2 rfl
  have c3 := hC1.cell 3 rfl
  have c4 := hC1.cell 4 rfl
  have c5 := hC1.cell 5 rfl
  have c6 := hC1.cell 6 rfl
  have cz0 := hC1.frozen 0
  have cz1 := hC1.frozen 1
  have cz2 := hC1.frozen 2
  have cz3 := hC1.frozen 3
  have cz4 := hC1.frozen 4
  have cz5 := hC1.frozen 5
  have cz6 := hC1.frozen 6
  have d0 := hC2.cell 0 rfl
  have d1 := hC2.cell 1 rfl
  have d2 := hC2.cell 2 rfl
  have d3 := hC2.cell 3 rfl
  have d4 := hC2.cell 4 rfl
  have d5 := hC2.cell 5 rfl
  have d6 := hC2.cell 6 rfl
  have dz0 := hC2.frozen 0
  have dz1 := hC2.frozen 1
  have dz2 := hC2.frozen 2
  have dz3 := hC2.frozen 3
  have dz4 := hC2.frozen 4
  have dz5 := hC2.frozen 5
  have dz6 := hC2.frozen 6
  go_wp2_with fail
  refine bodyPost_ret (results_node rfl _ _ (w.heap.size + 1) rfl (hC2.node _ _ _ _ _ _ _)) rfl ?_
  have hfa : Fr [X.pb] w w1 := (hf0.mono (by simp)).trans hf1
  have hF := fr_node (g := w.heap.size + 1) hfa (.inr (by omega)) (.int .u8 x.kind) (.string x.text) (.int .i64 x.num) (.slice hd.As x.subs.length hd.cs) (.slice hd.Ap x.params.length hd.cp) (.slice hd.Ab x.body.length hd.cb) (.slice hd.Ae x.els.length hd.ce)
  exact ⟨rfl, hF, At.new h h1 (fr_node1 _ _ _ _ _ _ _ _ _) (by simp)⟩
theorem expr_step {r : Out} (w : World) (h : X.At w j)
    (hbin : ∀ w', X.At w' j → Calls Tryz.prog 244 #[X.p, .int .i64 0] w' (X.R2 w' r)) :
    Calls Tryz.prog 228 #[X.p] w (X.R1 w r) := by
  obtain ⟨V, hV⟩ : ∃ V, V = w.alloc (.cells zeroN 46) := ⟨_, rfl⟩
  have hf0 : Fr [] w V := by rw [hV]; exact frx
  have hB1 : Blk V w.heap.size 46 zeroN := by rw [hV]; exact Blk.new _ _ _ _ rfl
  have hpl := X.lt h
  have hz := hf0.size
  have HC := Lib.hid (hbin V (h.fr0 hf0))
  have HV := Lib.hid hV.symm
  clear hV hbin
  cases r with
  | bad k =>
    have HC : Hid (Calls Tryz.prog 244 #[X.p, .int .i64 0] V (X.Bad V k)) := HC
    show Calls _ _ _ _ (X.Bad w k)
    go_enter Tryz.func228, Tryz.ntmps228
    go_wp2_with fail
    rw [HV.out]
    refine HC.out.mono ?_
    rintro en w1 ⟨rfl, hf1⟩
    go_wp2_with fail
    exact ⟨rfl, rfl, (hf0.mono (by simp)).trans hf1⟩
  | ok l b k =>
    have HC : Hid (Calls Tryz.prog 244 #[X.p, .int .i64 0] V (X.Nd2 V (hd1 l) b k)) := HC
    show Calls _ _ _ _ (X.Nd1 w (hd1 l) k)
    generalize hd1 l = x at *
    go_enter Tryz.func228, Tryz.ntmps228
    go_wp2_with fail
    rw [HV.out]
    refine HC.out.mono ?_
    rintro en w1 ⟨hd, n, rfl, hx, hf1, h1⟩
    have hfa : Fr [X.pb] w w1 := (hf0.mono (by simp)).trans hf1
    have hC1 := hB1.fr hf1 (by simp; omega)
    have hz1 := hf1.size
    have hfW : Fr [] w1 (w1.alloc (.cells (ndCells x hd) 46)) := (Fr.refl _ _).alloc _
    have hD1 := hC1.fr hfW (by simp)
    have hD2 : Blk (w1.alloc (.cells (ndCells x hd) 46)) w1.heap.size 46 (ndCells x hd) := Blk.new _ _ _ _ rfl
    have hVz : w.heap.size < V.heap.size := hB1.lt
    have c0 := hD1.cell 0 rfl
    have c1 := hD1.cell 1 rfl
    have c2 := hD1.cell 2 rfl
    have c3 := hD1.cell 3 rfl
    have c4 := hD1.cell 4 rfl
    have c5 := hD1.cell 5 rfl
    have c6 := hD1.cell 6 rfl
    have cz0 := hD1.frozen 0
    have cz1 := hD1.frozen 1
    have cz2 := hD1.frozen 2
    have cz3 := hD1.frozen 3
    have cz4 := hD1.frozen 4
    have cz5 := hD1.frozen 5
    have cz6 := hD1.frozen 6
    have d0 := hD2.cell 0 rfl
    have d1 := hD2.cell 1 rfl
    have d2 := hD2.cell 2 rfl
    have d3 := hD2.cell 3 rfl
    have d4 := hD2.cell 4 rfl
    have d5 := hD2.cell 5 rfl
    have d6 := hD2.cell 6 rfl
    have dz0 := hD2.frozen 0
    have dz1 := hD2.frozen 1
    have dz2 := hD2.frozen 2
    have dz3 := hD2.frozen 3
    have dz4 := hD2.frozen 4
    have dz5 := hD2.frozen 5
    have dz6 := hD2.frozen 6
    go_wp2_with fail
    refine bodyPost_ret (results_node rfl _ _ w.heap.size rfl (hD1.node _ _ _ _ _ _ _)) rfl ?_
    refine ⟨hd, n, rfl, ?_, fr_node (hfa.alloc _) (.inr (Nat.le_refl _)) _ _ _ _ _ _ _, At.new h (h1.fr0 hfW) (fr_node1 _ _ _ _ _ _ _ _ _) (by simp)⟩
    exact ((hx.fr0 hfW).fr (fr_node1 _ w.heap.size _ _ _ _ _ _ _) (fun k hk => by simp at hk; subst hk; exact hVz)).sub fun k _ hk => Nat.lt_of_lt_of_le hk hz
end
end

/- unit, called, unary of the parser. -/
section
open Go.RowKit
set_option linter.unusedSimpArgs false
section
variable {X : Px} {i j : Nat}
theorem take_ok {s : ByteArray} {w : World} (h : X.At w i) (hs : isW X.ws i s = true) : Calls Tryz.prog 185 #[X.p, .string s] w (fun en w' => en = .returned (.tuple #[]) ∧ Fr [X.pb] w w' ∧ X.At w' (i + 1)) := by
 have := take_any s w h X.hm
 rw [hs, if_pos rfl] at this
 exact this
theorem take_bad {s : ByteArray} {w : World} (h : X.At w i) (hs : isW X.ws i s = false) : Calls Tryz.prog 185 #[X.p, .string s] w (X.Bad w i) := by
 have := take_any s w h X.hm
 rw [hs, if_neg (by simp)] at this
 exact this
theorem has_ok {s : ByteArray} {w : World} (h : X.At w i) (hs : isW X.ws i s = true) : Calls Tryz.prog 213 #[X.p, .string s] w (fun en w' => en = .returned (.bool true) ∧ Fr [X.pb] w w' ∧ X.At w' (i + 1)) := by
 have := has_any s w h X.hm
 rw [hs, if_pos rfl] at this
 exact this
theorem has_no {s : ByteArray} {w : World} (h : X.At w i) (hs : isW X.ws i s = false) : Calls Tryz.prog 213 #[X.p, .string s] w (fun en w' => en = .returned (.bool false) ∧ Fr [X.pb] w w' ∧ X.At w' i) := by
 have := has_any s w h X.hm
 rw [hs, if_neg (by simp)] at this
 exact this
theorem name_ok {t : ByteArray} {w : World} (h : X.At w i) (hs : nameW X.ws i = some t) : Calls Tryz.prog 186 #[X.p] w (fun en w' => en = .returned (.string t) ∧ Fr [X.pb] w w' ∧ X.At w' (i + 1)) := by
 have := name_any w h X.hm
 unfold PName at this
 rw [hs] at this
 exact this
theorem name_bad {w : World} (h : X.At w i) (hs : nameW X.ws i = none) : Calls Tryz.prog 186 #[X.p] w (X.Bad w i) := by
 have := name_any w h X.hm
 unfold PName at this
 rw [hs] at this
 exact this
set_option maxRecDepth 20000 in
set_option maxHeartbeats 3200000 in
theorem unit_step {o : Option Out} {r : Out} (w : World) (h : X.At w i)
    (hr : (if isW X.ws i (bt [40]) then andW o fun l _ j => if isW X.ws j (bt [41]) then some (.ok [hd1 l] false (j + 1)) else some (.bad j) else some (.bad i)) = some r)
    (he : ∀ q, o = some q → isW X.ws i (bt [40]) = true → ∀ w', X.At w' (i + 1) → Calls Tryz.prog 228 #[X.p] w' (X.R1 w' q)) :
    Calls Tryz.prog 261 #[X.p] w (X.R1 w r) := by
  obtain ⟨V, hV⟩ : ∃ V, V = w.alloc (.cells zeroN 46) := ⟨_, rfl⟩
  have hf0 : Fr [] w V := by rw [hV]; exact frx
  have hB1 : Blk V w.heap.size 46 zeroN := by rw [hV]; exact Blk.new _ _ _ _ rfl
  have hpl := X.lt h
  have hz := hf0.size
  have hVz : w.heap.size < V.heap.size := hB1.lt
  have hV0 := h.fr0 hf0
  have HV := Lib.hid hV.symm
  clear hV
  cases h1 : isW X.ws i (bt [40]) with
  | false =>
    rw [h1, if_neg (by simp)] at hr
    injection hr with hr
    subst hr
    have HC := Lib.hid (take_bad hV0 h1)
    clear h1 he
    show Calls _ _ _ _ (X.Bad w i)
    go_enter Tryz.func261, Tryz.ntmps261
    go_wp2_with fail
    rw [HV.out]
    refine HC.out.mono ?_
    rintro en w1 ⟨rfl, hf1⟩
    go_wp2_with fail
    exact ⟨rfl, rfl, (hf0.mono (by simp)).trans hf1⟩
  | true =>
    rw [h1, if_pos rfl] at hr
    have HC := Lib.hid (take_ok hV0 h1)
    cases o with
    | none => cases hr
    | some q =>
      have HE := Lib.hid (he q rfl h1)
      clear he h1
      cases q with
      | bad k =>
        have hr : some (Out.bad k) = some r := hr
        injection hr with hr
        subst hr
        have HE : Hid (∀ w', X.At w' (i + 1) → Calls Tryz.prog 228 #[X.p] w' (X.Bad w' k)) := HE
        show Calls _ _ _ _ (X.Bad w k)
        go_enter Tryz.func261, Tryz.ntmps261
        go_wp2_with fail
        rw [HV.out]
        refine HC.out.mono ?_
        rintro en w1 ⟨rfl, hf1, a1⟩
        go_wp2_with fail
        refine (HE.out _ a1).mono ?_
        rintro en w2 ⟨rfl, hf2⟩
        go_wp2_with fail
        exact ⟨rfl, rfl, ((hf0.mono (by simp)).trans hf1).trans hf2⟩
      | ok l b j =>
        have hr : (if isW X.ws j (bt [41]) then some (Out.ok [hd1 l] false (j + 1)) else some (.bad j)) = some r := hr
        have HE : Hid (∀ w', X.At w' (i + 1) → Calls Tryz.prog 228 #[X.p] w' (X.Nd1 w' (hd1 l) j)) := HE
        cases h2 : isW X.ws j (bt [41]) with
        | false =>
          rw [h2, if_neg (by simp)] at hr
          injection hr with hr
          subst hr
          have H2 := Lib.hid h2
          clear h2
          generalize hd1 l = x at *
          show Calls _ _ _ _ (X.Bad w j)
          go_enter Tryz.func261, Tryz.ntmps261
          go_wp2_with fail
          rw [HV.out]
          refine HC.out.mono ?_
          rintro en w1 ⟨rfl, hf1, a1⟩
          go_wp2_with fail
          refine (HE.out _ a1).mono ?_
          rintro en w2 ⟨hd, n, rfl, hx, hf2, a2⟩
          go_wp2_with fail
          refine (take_bad (a2.fr0 ((Fr.refl _ w2).alloc (.cells (ndCells x hd) 46))) H2.out).mono ?_
          rintro en w3 ⟨rfl, hf3⟩
          go_wp2_with fail
          exact ⟨rfl, rfl, (((hf0.mono (by simp)).trans hf1).trans hf2).alloc _ |>.trans hf3⟩
        | true =>
          rw [h2, if_pos rfl] at hr
          injection hr with hr
          subst hr
          have H2 := Lib.hid h2
          clear h2
          show Calls _ _ _ _ (X.Nd1 w (hd1 l) (j + 1))
          generalize hd1 l = x at *
          go_enter Tryz.func261, Tryz.ntmps261
          go_wp2_with fail
          rw [HV.out]
          refine HC.out.mono ?_
          rintro en w1 ⟨rfl, hf1, a1⟩
          go_wp2_with fail
          refine (HE.out _ a1).mono ?_
          rintro en w2 ⟨hd, n, rfl, hx, hf2, a2⟩
          have hfW : Fr [] w2 (w2.alloc (.cells (ndCells x hd) 46)) := (Fr.refl _ _).alloc _
          go_wp2_with fail
          refine (take_ok (a2.fr0 hfW) H2.out).mono ?_
          rintro en w3 ⟨rfl, hf3, a3⟩
          have hz1 := hf1.size
          have hz2 := hf2.size
          have hD2 := (Blk.new w2 46 (ndCells x hd) _ rfl).fr hf3 (by simp; omega)
          have hD1 := (((hB1.fr hf1 (by simp; omega)).fr hf2 (by simp; omega)).fr hfW (by simp)).fr hf3 (by simp; omega)
          have hF := ((((hf0.mono (T := [X.pb]) (by simp)).trans hf1).trans hf2).alloc (.cells (ndCells x hd) 46)).trans hf3
          have hx3 := (hx.fr0 hfW).fr hf3 (fun k hk => by simp at hk; subst hk; show X.pb < w1.heap.size; omega)
          have c0 := hD1.cell 0 rfl
          have c1 := hD1.cell 1 rfl
          have c2 := hD1.cell 2 rfl
          have c3 := hD1.cell 3 rfl
          have c4 := hD1.cell 4 rfl
          have c5 := hD1.cell 5 rfl
          have c6 := hD1.cell 6 rfl
          have cz0 := hD1.frozen 0
          have cz1 := hD1.frozen 1
          have cz2 := hD1.frozen 2
          have cz3 := hD1.frozen 3
          have cz4 := hD1.frozen 4
          have cz5 := hD1.frozen 5
          have cz6 := hD1.frozen 6
          have d0 := hD2.cell 0 rfl
          have d1 := hD2.cell 1 rfl
          have d2 := hD2.cell 2 rfl
          have d3 := hD2.cell 3 rfl
          have d4 := hD2.cell 4 rfl
          have d5 := hD2.cell 5 rfl
          have d6 := hD2.cell 6 rfl
          have dz0 := hD2.frozen 0
          have dz1 := hD2.frozen 1
          have dz2 := hD2.frozen 2
          have dz3 := hD2.frozen 3
          have dz4 := hD2.frozen 4
          have dz5 := hD2.frozen 5
          have dz6 := hD2.frozen 6
          go_wp2_with fail
          refine bodyPost_ret (results_node rfl _ _ w.heap.size rfl (hD1.node _ _ _ _ _ _ _)) rfl ?_
          refine ⟨hd, n, rfl, ?_, fr_node hF (.inr (Nat.le_refl _)) _ _ _ _ _ _ _, At.new h a3 (fr_node1 _ _ _ _ _ _ _ _ _) (by simp)⟩
          exact (hx3.fr (fr_node1 _ w.heap.size _ _ _ _ _ _ _) (fun k hk => by simp at hk; subst hk; show w.heap.size < w1.heap.size; omega)).sub fun k _ hk => by show k < w1.heap.size; omega
end
end

/- called of the parser. -/
section
open Go.RowKit
set_option linter.unusedSimpArgs false
section
variable {X : Px} {i j : Nat}
set_option maxRecDepth 20000 in
set_option maxHeartbeats 3200000 in
theorem called_step (kk : Int) (hkk : 0 ≤ kk ∧ kk ≤ 255) {o : Option Out} {r : Out} (w : World) (h : X.At w i)
    (hr : (match nameW X.ws i with
      | none => some (.bad i)
      | some t => if isW X.ws (i + 1) (bt [40]) then andW o fun l _ j => some (.ok [ndk kk t l] false j) else some (.bad (i + 1))) = some r)
    (he : ∀ q, o = some q → isW X.ws (i + 1) (bt [40]) = true → ∀ w', X.At w' (i + 2) → Calls Tryz.prog 259 #[X.p] w' (X.RL w' q)) :
    Calls Tryz.prog 260 #[X.p, .int .u8 kk] w (X.R1 w r) := by
  obtain ⟨V, hV⟩ : ∃ V, V = w.alloc (.cells zeroN 46) := ⟨_, rfl⟩
  have hf0 : Fr [] w V := by rw [hV]; exact frx
  have hB1 : Blk V w.heap.size 46 zeroN := by rw [hV]; exact Blk.new _ _ _ _ rfl
  have hpl := X.lt h
  have hz := hf0.size
  have hVz : w.heap.size < V.heap.size := hB1.lt
  have hV0 := h.fr0 hf0
  have hF0 : Fr [X.pb] w V := hf0.mono (by simp)
  have HV := Lib.hid hV.symm
  clear hV
  cases h1 : nameW X.ws i with
  | none =>
    rw [h1] at hr
    injection hr with hr
    subst hr
    have HC := Lib.hid (name_bad hV0 h1)
    clear h1 he
    show Calls _ _ _ _ (X.Bad w i)
    go_enter Tryz.func260, Tryz.ntmps260
    go_wp2_with fail
    rw [HV.out]
    refine (HC.out).mono ?_
    rintro en w1 ⟨rfl, hf1⟩
    have hF1 : Fr [X.pb] w w1 := (Fr.trans frx hf1)
    go_wp2_with fail
    exact ⟨rfl, rfl, hF1⟩
  | some t =>
    have HC := Lib.hid (name_ok hV0 h1)
    rw [h1] at hr
    simp only at hr
    clear h1
    cases h2 : isW X.ws (i + 1) (bt [40]) with
    | false =>
      rw [h2, if_neg (by simp)] at hr
      injection hr with hr
      subst hr
      have H2 := Lib.hid h2
      clear h2 he
      show Calls _ _ _ _ (X.Bad w (i + 1))
      go_enter Tryz.func260, Tryz.ntmps260
      go_wp2_with fail
      rw [HV.out]
      refine (HC.out).mono ?_
      rintro en w1 ⟨rfl, hf1, a1⟩
      have hF1 : Fr [X.pb] w w1 := (Fr.trans frx hf1)
      have hz1 := hf1.size
      go_wp2_with fail
      refine (take_bad (a1.fr0 frx) H2.out).mono ?_
      rintro en w2 ⟨rfl, hf2⟩
      have hF2 : Fr [X.pb] w w2 := (Fr.trans frx hf2)
      go_wp2_with fail
      exact ⟨rfl, rfl, hF2⟩
    | true =>
      rw [h2, if_pos rfl] at hr
      have H2 := Lib.hid h2
      cases o with
      | none => cases hr
      | some q =>
        have HE := Lib.hid (he q rfl h2)
        clear he h2
        cases q with
        | bad k =>
          have hr : some (Out.bad k) = some r := hr
          injection hr with hr
          subst hr
          have HE : Hid (∀ w', X.At w' (i + 2) → Calls Tryz.prog 259 #[X.p] w' (X.Bad w' k)) := HE
          show Calls _ _ _ _ (X.Bad w k)
          go_enter Tryz.func260, Tryz.ntmps260
          go_wp2_with fail
          rw [HV.out]
          refine (HC.out).mono ?_
          rintro en w1 ⟨rfl, hf1, a1⟩
          have hF1 : Fr [X.pb] w w1 := (Fr.trans frx hf1)
          have hz1 := hf1.size
          go_wp2_with fail
          refine (take_ok (a1.fr0 frx) H2.out).mono ?_
          rintro en w2 ⟨rfl, hf2, a2⟩
          have hF2 : Fr [X.pb] w w2 := (Fr.trans frx hf2)
          have hz2 := hf2.size
          go_wp2_with fail
          refine (HE.out _ a2).mono ?_
          rintro en w3 ⟨rfl, hf3⟩
          have hF3 : Fr [X.pb] w w3 := (Fr.trans frx hf3)
          go_wp2_with fail
          exact ⟨rfl, rfl, hF3⟩
        | ok l b j =>
          have hr : some (Out.ok [ndk kk t l] false j) = some r := hr
          injection hr with hr
          subst hr
          have HE : Hid (∀ w', X.At w' (i + 2) → Calls Tryz.prog 259 #[X.p] w' (X.Ls w' l j)) := HE
          show Calls _ _ _ _ (X.Nd1 w (ndk kk t l) j)
          go_enter Tryz.func260, Tryz.ntmps260
          go_wp2_with fail
          rw [HV.out]
          refine (HC.out).mono ?_
          rintro en w1 ⟨rfl, hf1, a1⟩
          have hF1 : Fr [X.pb] w w1 := (Fr.trans frx hf1)
          have hz1 := hf1.size
          go_wp2_with fail
          refine (take_ok (a1.fr0 frx) H2.out).mono ?_
          rintro en w2 ⟨rfl, hf2, a2⟩
          have hF2 : Fr [X.pb] w w2 := (Fr.trans frx hf2)
          have hz2 := hf2.size
          go_wp2_with fail
          refine (HE.out _ a2).mono ?_
          rintro en w3 ⟨As, cs, n, rfl, hl, hf3, a3⟩
          have hF3 : Fr [X.pb] w w3 := (Fr.trans frx hf3)
          have hz3 := hf3.size
          have hg : w1.heap.size < w2.heap.size := by
            have h5 := hf2.size
            simp at h5
            omega
          have hD2 : Blk w3 w1.heap.size 46 #[.int .u8 kk, .string t, .int .i64 0, .slice none 0 0, .slice none 0 0, .slice none 0 0, .slice none 0 0] := ((Blk.new w1 _ _ _ rfl).fr hf2 (by simp; omega)).fr hf3 (by simp; omega)
          have hD1 : Blk w3 w.heap.size 46 zeroN := (((hB1.fr hf1 (by simp; omega)).alloc _).fr hf2 (by simp; omega)).fr hf3 (by simp; omega)
          have hE2 : Blk (w3.setCell ⟨w1.heap.size, 3, none⟩ (.slice As l.length cs)) w1.heap.size 46 #[.int .u8 kk, .string t, .int .i64 0, .slice As l.length cs, .slice none 0 0, .slice none 0 0, .slice none 0 0] := by
            have := hD2.set_ 3 (.slice As l.length cs)
            simpa using this
          have hE1 : Blk (w3.setCell ⟨w1.heap.size, 3, none⟩ (.slice As l.length cs)) w.heap.size 46 zeroN := hD1.far (p := ⟨w1.heap.size, 3, none⟩) (by show w.heap.size ≠ w1.heap.size; omega) _
          have n3 := hD2.cell 3 rfl
          have nz3 := hD2.frozen 3
          have c0 := hE1.cell 0 rfl
          have c1 := hE1.cell 1 rfl
          have c2 := hE1.cell 2 rfl
          have c3 := hE1.cell 3 rfl
          have c4 := hE1.cell 4 rfl
          have c5 := hE1.cell 5 rfl
          have c6 := hE1.cell 6 rfl
          have cz0 := hE1.frozen 0
          have cz1 := hE1.frozen 1
          have cz2 := hE1.frozen 2
          have cz3 := hE1.frozen 3
          have cz4 := hE1.frozen 4
          have cz5 := hE1.frozen 5
          have cz6 := hE1.frozen 6
          have d0 := hE2.cell 0 rfl
          have d1 := hE2.cell 1 rfl
          have d2 := hE2.cell 2 rfl
          have d3 := hE2.cell 3 rfl
          have d4 := hE2.cell 4 rfl
          have d5 := hE2.cell 5 rfl
          have d6 := hE2.cell 6 rfl
          have dz0 := hE2.frozen 0
          have dz1 := hE2.frozen 1
          have dz2 := hE2.frozen 2
          have dz3 := hE2.frozen 3
          have dz4 := hE2.frozen 4
          have dz5 := hE2.frozen 5
          have dz6 := hE2.frozen 6
          have hS3 : Fr [w1.heap.size] w3 (w3.setCell ⟨w1.heap.size, 3, none⟩ (.slice As l.length cs)) := (Fr.refl _ _).setCell (.inl (by simp)) _
          go_wp2_with fail
          refine bodyPost_ret (results_node (x := ndk kk t l) (hd := ⟨As, cs, none, 0, none, 0, none, 0⟩) rfl _ _ w.heap.size rfl (hE1.node _ _ _ _ _ _ _)) rfl ?_
          refine ⟨⟨As, cs, none, 0, none, 0, none, 0⟩, n, rfl, NdH.sub_ hkk ?_, fr_node (hF3.setCell (p := ⟨w1.heap.size, 3, none⟩) (.inr (by show w.heap.size ≤ w1.heap.size; omega)) _) (.inr (Nat.le_refl _)) _ _ _ _ _ _ _, At.new h (At.new h a3 hS3 (by simp; omega)) (fr_node1 _ _ _ _ _ _ _ _ _) (by simp)⟩
          exact ((hl.fr hS3 (fun k hk => by simp at hk; subst hk; exact hg)).fr (fr_node1 _ w.heap.size _ _ _ _ _ _ _) (fun k hk => by simp at hk; subst hk; show w.heap.size < w2.heap.size; omega)).sub fun k _ hk => by show k < w2.heap.size; have : k < w.heap.size := hk; omega
end
end

/- What simple says of a word: the statement's kind. -/
section
open Go.RowKit
set_option linter.unusedSimpArgs false
theorem lookup_ba (s b : ByteArray) (n : Int) (l : List (ByteArray × Int)) : @List.lookup ByteArray Int instBEqOfDecidableEq s ((b, n) :: l) = if s = b then some n else @List.lookup ByteArray Int instBEqOfDecidableEq s l := by
 by_cases h : s = b
 ·subst h
  rw [if_pos rfl]
  simp [List.lookup]
 ·rw [if_neg h]
  have hb : @BEq.beq ByteArray instBEqOfDecidableEq s b = false := decide_eq_false h
  simp only [List.lookup, hb]
theorem simpleK_eq (ws : List Wd) (i : Nat) : simpleK ws i = if kindAt ws i = 3 then simpOf (textAt ws i) else none := by
  unfold simpleK kindAt textAt simpOf simpL
  cases ws[i]? with
  | none => simp
  | some w =>
    have h3 := pk_3 w.what
    simp only [lookup_ba]
    by_cases h : w.what ≠ 0 ∧ w.what ≠ 2
    · rw [if_pos h, if_pos (h3.2 h)]
      rfl
    · rw [if_neg h, if_neg fun h' => h (h3.1 h')]
end

end Go.Proofs.YtchldahkcpbgcaaGreatDoor
