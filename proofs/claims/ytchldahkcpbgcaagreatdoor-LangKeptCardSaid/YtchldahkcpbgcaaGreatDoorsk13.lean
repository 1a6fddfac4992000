/- Texts of this seat, one behind the other: CutM. -/
import Derived.Test.YtchldahkcpbgcaaGreatDoorsk4
import Derived.Lib.ParseIntB
namespace Go.Proofs.YtchldahkcpbgcaaGreatDoor
set_option linter.unusedVariables false

/- The words of a text: plain. -/
section
open Go.RowKit
set_option linter.unusedSimpArgs false
def runLen (p : Int → Bool) (s : ByteArray) : Nat → Nat → Nat
 | 0, k => k
 | n + 1, k => if k < s.size ∧ p (byteAt s k) = true then runLen p s n (k + 1) else k
def endOf (p : Int → Bool) (s : ByteArray) (k : Nat) : Nat := runLen p s (s.size - k) k
section
variable {p : Int → Bool} {s : ByteArray} {k : Nat}
theorem endOf_step (h : k < s.size) (hp : p (byteAt s k) = true) : endOf p s k = endOf p s (k + 1) := by
 unfold endOf
 rw [show s.size - k = (s.size - (k + 1)) + 1 by omega, runLen, if_pos ⟨h, hp⟩]
theorem endOf_stop (h : k < s.size) (hp : p (byteAt s k) = false) : endOf p s k = k := by
 unfold endOf
 rw [show s.size - k = (s.size - (k + 1)) + 1 by omega, runLen, if_neg (by simp [hp])]
theorem endOf_end (h : s.size ≤ k) : endOf p s k = k := by
 unfold endOf
 rw [show s.size - k = 0 by omega]
 rfl
theorem endOf_ge (p : Int → Bool) (s : ByteArray) : ∀ (n k : Nat), s.size - k = n → k ≤ s.size → k ≤ endOf p s k ∧ endOf p s k ≤ s.size
  | 0, k, hn, hk => by
    rw [endOf_end (by omega)]
    omega
  | n + 1, k, hn, hk => by
    cases h : p (byteAt s k) with
    | false => rw [endOf_stop (by omega) h]; omega
    | true =>
      rw [endOf_step (by omega) h]
      have := endOf_ge p s n (k + 1) (by omega) (by omega)
      omega
theorem endOf_le (h : k ≤ s.size) : k ≤ endOf p s k ∧ endOf p s k ≤ s.size := endOf_ge p s _ k rfl h
theorem endOf_lt (h : k < s.size) (hp : p (byteAt s k) = true) : k + 1 ≤ endOf p s k := by
 rw [endOf_step h hp]
 exact (endOf_le (by omega)).1
end
def blankB (c : Int) : Bool := decide (c = 32 ∨ c = 9 ∨ c = 10 ∨ c = 13)
def notNl (c : Int) : Bool := decide (c ≠ 10)
def skipN (s : ByteArray) : Nat → Nat → Nat
 | 0, k => k
 | n + 1, k => if k < s.size then (if blankB (byteAt s k) then skipN s n (k + 1) else if byteAt s k = 35 then skipN s n (endOf notNl s k) else k) else k
theorem skipN_fuel (s : ByteArray) : ∀ (n m k : Nat), s.size - k ≤ n → s.size - k ≤ m → skipN s n k = skipN s m k
  | 0, 0, k, _, _ => rfl
  | 0, m + 1, k, h, _ => by rw [skipN, skipN, if_neg (by omega)]
  | n + 1, 0, k, _, h => by rw [skipN, skipN, if_neg (by omega)]
  | n + 1, m + 1, k, h1, h2 => by
    rw [skipN, skipN]
    by_cases hk : k < s.size
    · rw [if_pos hk, if_pos hk]
      split
      · exact skipN_fuel s n m (k + 1) (by omega) (by omega)
      · split
        · rename_i h3
          have := endOf_lt (p := notNl) hk (by rw [h3]; rfl)
          exact skipN_fuel s n m _ (by omega) (by omega)
        · rfl
    · rw [if_neg hk, if_neg hk]
def skipTo (s : ByteArray) (k : Nat) : Nat := skipN s s.size k
section
variable {s : ByteArray} {k : Nat}
theorem skip_blank (h : k < s.size) (hb : blankB (byteAt s k) = true) : skipTo s k = skipTo s (k + 1) := by
 unfold skipTo
 rw [skipN_fuel s s.size (s.size - k) k (by omega) (Nat.le_refl _), show s.size - k = (s.size - (k + 1)) + 1 by omega, skipN, if_pos h, if_pos hb]
 exact skipN_fuel s _ _ _ (Nat.le_refl _) (by omega)
theorem skip_rem (h : k < s.size) (hb : blankB (byteAt s k) = false) (h35 : byteAt s k = 35) : skipTo s k = skipTo s (endOf notNl s k) := by
 have := endOf_lt (p := notNl) h (by rw [h35]; rfl)
 unfold skipTo
 rw [skipN_fuel s s.size (s.size - k) k (by omega) (Nat.le_refl _), show s.size - k = (s.size - (k + 1)) + 1 by omega, skipN, if_pos h, if_neg (by simp [hb]), if_pos h35]
 exact skipN_fuel s _ _ _ (by omega) (by omega)
theorem skip_stop (h : k < s.size) (hb : blankB (byteAt s k) = false) (h35 : ¬ byteAt s k = 35) : skipTo s k = k := by
 unfold skipTo
 rw [skipN_fuel s s.size (s.size - k) k (by omega) (Nat.le_refl _), show s.size - k = (s.size - (k + 1)) + 1 by omega, skipN, if_pos h, if_neg (by simp [hb]), if_neg h35]
theorem skip_end (h : s.size ≤ k) : skipTo s k = k := by
 unfold skipTo
 rw [skipN_fuel s s.size 0 k (by omega) (by omega)]
 rfl
theorem skip_ge (s : ByteArray) : ∀ (n k : Nat), s.size - k ≤ n → k ≤ s.size → k ≤ skipTo s k ∧ skipTo s k ≤ s.size
  | 0, k, hn, hk => by
    rw [skip_end (by omega)]
    omega
  | n + 1, k, hn, hk => by
    rcases Nat.lt_or_ge k s.size with h | h
    · cases hb : blankB (byteAt s k) with
      | true =>
        rw [skip_blank h hb]
        have := skip_ge s n (k + 1) (by omega) (by omega)
        omega
      | false =>
        by_cases h35 : byteAt s k = 35
        · rw [skip_rem h hb h35]
          have h1 := endOf_lt (p := notNl) h (by rw [h35]; rfl)
          have h2 := endOf_le (p := notNl) (s := s) (k := k) (by omega)
          have := skip_ge s n (endOf notNl s k) (by omega) h2.2
          omega
        · rw [skip_stop h hb h35]
          omega
    · rw [skip_end h]
      omega
theorem skip_le (h : k ≤ s.size) : k ≤ skipTo s k ∧ skipTo s k ≤ s.size := skip_ge s _ k (Nat.le_refl _) h
end
def okNum (x : ByteArray) : Bool :=
 (match Lib.parseIntB 64 x.data.toList with | .ok _ => true | _ => false) && (decide (x.size = 1) || decide (byteAt x 0 ≠ 48))
def oneW (s : ByteArray) (k : Nat) : Option Wd :=
  if lowB (byteAt s k) then
    (let x := s.extract k (endOf partB s k)
     if 16 < x.size then none else some ⟨if inS kwL x then 1 else 0, x, k⟩)
  else if digB (byteAt s k) then
    (let x := s.extract k (endOf digB s k)
     if okNum x then some ⟨2, x, k⟩ else none)
  else match mkL.find? (fun m => m.data.toList.isPrefixOf (s.extract k s.size).data.toList) with
    | some m => some ⟨3, m, k⟩
    | none => none
def wordsN (s : ByteArray) : Nat → Nat → List Wd → List Wd ⊕ Nat
 | 0, k, acc => .inl acc
 | n + 1, k, acc => if k < s.size then (match oneW s k with
   | none => .inr k
   | some w => wordsN s n (skipTo s (k + w.text.size)) (acc ++ [w])) else .inl acc
def wordsW (s : ByteArray) : List Wd ⊕ Nat := wordsN s s.size (skipTo s 0) []
end

end Go.Proofs.YtchldahkcpbgcaaGreatDoor
