/- Texts of this seat, one behind the other: Say. -/
import Derived.Test.YtjpbmbonccenfaaDoort220
import Derived.Laws.Closers25b
/- An oracle: what it says; whether it is too great. -/
namespace Go.Proofs.YtjpbmbonccenfaaDoor
open Go.RowKit
set_option linter.unusedVariables false

/-- One number more in a hash. -/
def mixStep (n x : Int) : Int :=
  bits .xor .u64 (IntKind.u64.wrap (bits .xor .u64 n (IntKind.u64.wrap x) * 13787848793156543929)) (IntKind.u64.wrap (bits .xor .u64 n (IntKind.u64.wrap x) * 13787848793156543929) / 536870912)
def mix0 (salt : Int) (xs : List Int) : Int := xs.foldl mixStep (bits .xor .u64 salt 11400714819323198485)
/-- The hash of numbers. -/
def mixedOf (salt : Int) (xs : List Int) : Int := IntKind.u64.wrap (bits .xor .u64 (mix0 salt xs) (mix0 salt xs / 4294967296) * 10723151780598845931)
theorem bits_u64 (a b : Int) : 0 ≤ bits .xor .u64 a b ∧ bits .xor .u64 a b ≤ 18446744073709551615 := bits_within .xor .u64 a b
theorem mix0_in (salt : Int) (xs : List Int) : 0 ≤ mix0 salt xs ∧ mix0 salt xs ≤ 18446744073709551615 := by
  have : ∀ (xs : List Int) (n : Int), (0 ≤ n ∧ n ≤ 18446744073709551615) → 0 ≤ xs.foldl mixStep n ∧ xs.foldl mixStep n ≤ 18446744073709551615 := by
    intro xs
    induction xs with
    | nil => intro n h; exact h
    | cons x xs ih => intro n h; exact ih _ (bits_u64 _ _)
  exact this xs _ (bits_u64 _ _)
theorem mix0_snoc {salt : Int} {xs : List Int} {k : Nat} {x : Int} (h : Hid (xs[k]? = some x)) : mix0 salt (xs.take (k + 1)) = mixStep (mix0 salt (xs.take k)) x := by
  unfold mix0
  rw [List.take_add_one, h.out]
  simp
theorem mixedOf_in (salt : Int) (xs : List Int) : 0 ≤ mixedOf salt xs ∧ mixedOf salt xs ≤ 18446744073709551615 := wrap_within .u64 _

set_option maxRecDepth 20000 in
set_option maxHeartbeats 800000 in
theorem mixed_any (A : Option Addr) (c : Nat) (salt : Int) (xs : List Int) (w : World) (ha : Rd w (.int .i64) A c xs) (hs : 0 ≤ salt ∧ salt ≤ 18446744073709551615) :
    Calls Tryd.prog 70 #[.int .u64 salt, .slice A xs.length c] w (RetQ w (.int .u64 (mixedOf salt xs))) := by
  have hbd := ha.bound
  go_enter Tryd.func70, Tryd.ntmps70
  go_wp2
  go_loopw [5, 6] (fun h i wr => ∃ k : Nat, k ≤ xs.length ∧ i = .int .i64 k ∧ h = .int .u64 (mix0 salt (xs.take k)) ∧ ∃ m, wr = w.drewN m) (fun _ i _ => xs.length - (intOf i).toNat)
  case atStart => exact ⟨0, Nat.zero_le _, rfl, rfl, 0, rfl⟩
  case round =>
    obtain ⟨k, hk, rfl, rfl, m, rfl⟩ := hrel
    obtain ⟨hn0, hn1⟩ := mix0_in salt (xs.take k)
    by_cases hlt : k < xs.length
    · obtain ⟨b1, o1, x, rfl, hx, hc1⟩ := ha.at_ hlt
      have HS := Lib.hid (mix0_snoc (salt := salt) hx)
      generalize mix0 salt (xs.take k) = n at *
      go_wp2
      go_roundw
      case rel => exact ⟨k + 1, by omega, by go_num, by rw [HS.out]; rfl, m, rfl⟩
      case measure => simp [intOf]; omega
    · rw [List.take_of_length_le (by omega)] at hn0 hn1 ⊢
      have HM : Hid (mixedOf salt xs = IntKind.u64.wrap (bits .xor .u64 (mix0 salt xs) (mix0 salt xs / 4294967296) * 10723151780598845931)) := rfl
      generalize mix0 salt xs = n at *
      go_wp2
      go_ret
      rw [HM.out]
      exact ⟨rfl, m, rfl⟩

/-- Does a set contain all of one of these lists? -/
def contB (set : List Int) (L : List (List Int)) : Bool := L.any fun l => decide (minus l set = [])
theorem contB_yes {set l : List Int} {L : List (List Int)} {k : Nat} (h : Hid (L[k]? = some l)) (hz : minus l set = []) : contB set L = true :=
  List.any_eq_true.2 ⟨l, List.mem_of_getElem? h.out, by simpa using hz⟩
theorem contB_no {set l : List Int} {L : List (List Int)} {k : Nat} (h : Hid (L[k]? = some l)) (hz : ¬ minus l set = []) (h0 : Hid (contB set (L.take k) = false)) : Hid (contB set (L.take (k + 1)) = false) := by
  show _ = _
  have := h0.out
  unfold contB at *
  rw [List.take_add_one, h.out, List.any_append, this]
  simpa using hz
set_option maxRecDepth 20000 in
set_option maxHeartbeats 800000 in
theorem contains_any (A B : Option Addr) (c d : Nat) (set : List Int) (L : List (List Int)) (w : World) (ha : Rd w (.int .i64) A c set) (hb : Rss w B d L) (hl : ∀ l ∈ L, l.length ≤ 1000000) :
    Calls Tryd.prog 71 #[.slice A set.length c, .slice B L.length d] w (RetV w (.bool (contB set L))) := by
  have hbd := hb.bound
  have HL := Lib.hid hl
  clear hl
  go_enter Tryd.func71, Tryd.ntmps71
  go_wp2
  go_loopw [5] (fun i wr => ∃ k : Nat, k ≤ L.length ∧ i = .int .i64 k ∧ Hid (contB set (L.take k) = false) ∧ Fr [] w wr) (fun i _ => L.length - (intOf i).toNat)
  case atStart => exact ⟨0, Nat.zero_le _, rfl, by show _ = _; rfl, Fr.refl _ _⟩
  case round =>
    obtain ⟨k, hk, rfl, hno, hf⟩ := hrel
    by_cases hlt : k < L.length
    · obtain ⟨b1, o1, l, A2, c2, rfl, hx, hc1, hr2⟩ := (hb.fr0 hf).at_ hlt
      have hll := HL.out l (List.mem_of_getElem? hx.out)
      go_wp2_with fail
      refine (Minus_any A2 A c2 c l set _ hr2 (ha.fr0 hf) hll).mono ?_
      intro e w3 h3
      obtain ⟨A3, c3, rfl, hf3, _⟩ := h3.n
      have hml := minus_le l set
      clear h3
      by_cases hz : minus l set = []
      · have hR := Lib.hid (contB_yes hx hz)
        have hd : (((minus l set).length : Int) == 0) = true := by simp [hz]
        have hd' : ((minus l set).length == 0) = true := by simp [hz]
        have HZ := Lib.hid hz
        clear hz
        generalize (minus l set).length = n at *
        go_wp2
        go_ret
        exact ⟨ret_bool hR.out.symm, hf.trans hf3⟩
      · have hR := contB_no hx hz hno
        have h0 : (minus l set).length ≠ 0 := fun h => hz (List.eq_nil_of_length_eq_zero h)
        have hd : (((minus l set).length : Int) == 0) = false := beq_false_of_ne (by omega)
        have hd' : ((minus l set).length == 0) = false := beq_false_of_ne h0
        clear hz h0
        generalize (minus l set).length = n at *
        go_wp2
        go_roundw
        case rel => exact ⟨k + 1, by omega, by go_num, hR, hf.trans hf3⟩
        case measure => simp [intOf]; omega
    · rw [List.take_of_length_le (by omega)] at hno
      go_wp2
      go_ret
      exact ⟨ret_bool hno.out.symm, hf⟩

/-- An oracle. -/
structure Orc where
  need : List (List Int)
  bar : List (List Int)
  salt : Int
  loose : Int
/-- The value v reads in w as an oracle. -/
def OrcIs (w : World) (v : Value) (o : Orc) : Prop :=
  ∃ A a B b, v = .agg #[.slice A o.need.length a, .slice B o.bar.length b, .int .u64 o.salt, .int .u8 o.loose] ∧ Rss w A a o.need ∧ Rss w B b o.bar ∧ (0 ≤ o.salt ∧ o.salt ≤ 18446744073709551615) ∧ 0 ≤ o.loose ∧ o.loose ≤ 255
theorem OrcIs.fr0 {w w' : World} {v : Value} {o : Orc} (h : OrcIs w v o) (hf : Fr [] w w') : OrcIs w' v o := by
  obtain ⟨A, a, B, b, hv, h1, h2, h3⟩ := h
  exact ⟨A, a, B, b, hv, h1.fr0 hf, h2.fr0 hf, h3⟩
/-- How many numbers there are. -/
def sumL (L : List (List Int)) : Nat := (L.map fun l => min l.length 100).sum
/-- Is it too great? -/
def greatO (o : Orc) : Bool := decide (8 < o.need.length ∨ 8 < o.bar.length ∨ 60 < sumL o.need + sumL o.bar)
/-- What it says. -/
def sayO (o : Orc) (set : List Int) : Int :=
  if mixedOf o.salt set / 1048576 % 256 < o.loose then 1 + mixedOf o.salt set / 1048576 / 256 % 3 else if contB set o.need = true ∧ contB set o.bar = false then 2 else 1
theorem sumL_le {L : List (List Int)} {l : List Int} (h : l ∈ L) : min l.length 100 ≤ sumL L := by
  unfold sumL
  induction L with
  | nil => cases h
  | cons a L ih =>
    rw [List.map_cons, List.sum_cons]
    rcases List.mem_cons.1 h with rfl | h
    · omega
    · have := ih h; omega
theorem great_len {o : Orc} (h : greatO o = false) : (∀ l ∈ o.need, l.length ≤ 1000000) ∧ ∀ l ∈ o.bar, l.length ≤ 1000000 := by
  unfold greatO at h
  rw [decide_eq_false_iff_not] at h
  exact ⟨fun l hl => by have := sumL_le hl; omega, fun l hl => by have := sumL_le hl; omega⟩
theorem sayO_in (o : Orc) (set : List Int) : sayO o set = 1 ∨ sayO o set = 2 ∨ sayO o set = 3 := by
  unfold sayO
  have h := (mixedOf_in o.salt set).1
  generalize mixedOf o.salt set = m at *
  by_cases h1 : m / 1048576 % 256 < o.loose
  · rw [if_pos h1]
    omega
  · rw [if_neg h1]
    by_cases h2 : contB set o.need = true ∧ contB set o.bar = false
    · rw [if_pos h2]; omega
    · rw [if_neg h2]; omega
theorem sayO_told (o : Orc) (set : List Int) : told (sayO o set) = sayO o set := by
  rcases sayO_in o set with h | h | h <;> rw [h] <;> rfl
set_option maxRecDepth 20000 in
set_option maxHeartbeats 1600000 in
theorem Say_any (v : Value) (o : Orc) (A : Option Addr) (c : Nat) (set : List Int) (w : World) (ho : OrcIs w v o) (ha : Rd w (.int .i64) A c set) (hg : greatO o = false) :
    Calls Tryd.prog 23 #[v, .slice A set.length c] w (RetV w (.int .u8 (sayO o set))) := by
  obtain ⟨hl1, hl2⟩ := great_len hg
  obtain ⟨N, n, B, b, rfl, hN, hB, hs, hlo⟩ := ho
  have HL1 := Lib.hid hl1
  have HL2 := Lib.hid hl2
  clear hl1 hl2 hg
  obtain ⟨hm0, hm1⟩ := mixedOf_in o.salt set
  have hSay : Hid (sayO o set = if mixedOf o.salt set / 1048576 % 256 < o.loose then 1 + mixedOf o.salt set / 1048576 / 256 % 3 else if contB set o.need = true ∧ contB set o.bar = false then 2 else 1) := rfl
  have hbk := Blk.new w 30 #[.slice N o.need.length n, .slice B o.bar.length b, .int .u64 o.salt, .int .u8 o.loose] _ rfl
  have hmc := mixed_any A c o.salt set _ (ha.alloc (.cells #[.slice N o.need.length n, .slice B o.bar.length b, .int .u64 o.salt, .int .u8 o.loose] 30)) hs
  have hF : Fr [] w (w.alloc (.cells #[.slice N o.need.length n, .slice B o.bar.length b, .int .u64 o.salt, .int .u8 o.loose] 30)) := (Fr.refl _ _).alloc _
  obtain ⟨hlo0, hlo1⟩ := hlo
  generalize mixedOf o.salt set = m at *
  go_enter Tryd.func23, Tryd.ntmps23
  go_wp2_with fail
  refine hmc.mono ?_
  rintro e w1 ⟨rfl, k1, rfl⟩
  have hbk1 := hbk.drewN k1
  have q0 := hbk1.cell 0 rfl
  have q1 := hbk1.cell 1 rfl
  have q3 := hbk1.cell 3 rfl
  have hF1 := hF.drewN k1
  clear hmc
  by_cases h1 : m / 1048576 % 256 < o.loose
  · have hR : Hid (sayO o set = 1 + m / 1048576 / 256 % 3) := by show _ = _; rw [hSay.out, if_pos h1]
    clear hSay
    go_wp2
    go_ret
    exact ⟨ret_int hR.out.symm, hF1⟩
  · have hR : Hid (sayO o set = if contB set o.need = true ∧ contB set o.bar = false then 2 else 1) := by show _ = _; rw [hSay.out, if_neg h1]
    clear hSay
    go_wp2_with fail
    refine (contains_any A N c n set o.need _ (ha.fr0 hF1) (hN.fr0 hF1) HL1.out).mono ?_
    rintro e w2 ⟨rfl, hf2⟩
    have hF2 := hF1.trans hf2
    have hbk2 := hbk1.fr hf2 (by simp)
    have p1 := hbk2.cell 1 rfl
    rcases hc1 : contB set o.need with _ | _
    · have hR2 : Hid (sayO o set = 1) := by show _ = _; rw [hR.out, if_neg (by simp [hc1])]
      clear hc1
      go_wp2
      go_ret
      exact ⟨ret_int hR2.out.symm, hF2⟩
    · have HC1 := Lib.hid hc1
      clear hc1
      go_wp2_with fail
      refine (contains_any A B c b set o.bar _ (ha.fr0 hF2) (hB.fr0 hF2) HL2.out).mono ?_
      rintro e w3 ⟨rfl, hf3⟩
      have hF3 := hF2.trans hf3
      rcases hc2 : contB set o.bar with _ | _
      · have hR2 : Hid (sayO o set = 2) := by show _ = _; rw [hR.out, if_pos ⟨HC1.out, hc2⟩]
        clear hc2
        go_wp2
        go_ret
        exact ⟨ret_int hR2.out.symm, hF3⟩
      · have hR2 : Hid (sayO o set = 1) := by show _ = _; rw [hR.out, if_neg (by simp [hc2])]
        clear hc2
        go_wp2
        go_ret
        exact ⟨ret_int hR2.out.symm, hF3⟩
end Go.Proofs.YtjpbmbonccenfaaDoor
