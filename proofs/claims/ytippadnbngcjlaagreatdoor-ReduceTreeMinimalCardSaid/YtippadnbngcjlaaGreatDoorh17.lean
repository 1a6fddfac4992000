/- Texts of this seat, one behind the other: KeyStr. -/
import Derived.Lib.ItoaLen
import Derived.Test.YtippadnbngcjlaaGreatDoorh14
import Derived.Test.YtippadnbngcjlaaGreatDoorh16
namespace Go.Proofs.YtippadnbngcjlaaGreatDoor
set_option linter.unusedVariables false

/- The keys under which candidates are known: texts of numbers; two lists with one key are one list. -/
section
open Go.Lib
def valOf (l : List UInt8) : Nat := l.foldl (fun a b => a * 10 + (b.toNat - 48)) 0
theorem u8_dig (k : Nat) (h : k < 10) : (UInt8.ofNat (48 + k)).toNat = 48 + k := by
 simp
 omega
theorem dec_digit (u : Nat) : ∀ b ∈ decDigits u, 48 ≤ b.toNat ∧ b.toNat ≤ 57 := by
  induction u using Nat.strongRecOn with
  | _ u ih =>
    intro b hb
    rw [decDigits] at hb
    split at hb
    · rename_i h
      rw [List.mem_singleton] at hb
      subst hb
      rw [u8_dig _ h]
      omega
    · rename_i h
      rcases List.mem_append.1 hb with h1 | h1
      · exact ih (u / 10) (by omega) b h1
      · rw [List.mem_singleton] at h1
        subst h1
        rw [u8_dig _ (by omega)]
        omega
theorem valOf_dec (u : Nat) : valOf (decDigits u) = u := by
  induction u using Nat.strongRecOn with
  | _ u ih =>
    rw [decDigits]
    split
    · rename_i h
      simp only [valOf, List.foldl_cons, List.foldl_nil]
      rw [u8_dig _ h]
      omega
    · rename_i h
      have := ih (u / 10) (by omega)
      unfold valOf at this ⊢
      rw [List.foldl_append, this]
      simp only [List.foldl_cons, List.foldl_nil]
      rw [u8_dig _ (by omega)]
      omega
theorem dec_inj {u v : Nat} (h : decDigits u = decDigits v) : u = v := by rw [← valOf_dec u, h, valOf_dec]
theorem dec_no45 (u : Nat) (l : List UInt8) : decDigits u ≠ 45 :: l := by
 intro h
 have := dec_digit u 45 (by rw [h]; simp)
 simp at this
theorem itoa_inj {a b : Int} (h : itoa a = itoa b) : a = b := by
 unfold itoa at h
 split at h <;> split at h
 ·have := dec_inj (List.cons.inj h).2
  omega
 ·exact absurd h.symm (dec_no45 _ _)
 ·exact absurd h (dec_no45 _ _)
 ·have := dec_inj h
  omega
theorem itoa_byte {n : Int} {b : UInt8} (hb : b ∈ itoa n) : b.toNat = 45 ∨ 48 ≤ b.toNat ∧ b.toNat ≤ 57 := by
 unfold itoa at hb
 split at hb
 ·rcases List.mem_cons.1 hb with rfl | h
  ·left; rfl
  ·exact .inr (dec_digit _ _ h)
 ·exact .inr (dec_digit _ _ hb)
theorem itoa_no32 (n : Int) : (32 : UInt8) ∉ itoa n := fun h => by have := itoa_byte h; simp at this
theorem split_mark {s : UInt8} : ∀ {a b x y : List UInt8}, s ∉ a → s ∉ b → a ++ s :: x = b ++ s :: y → a = b ∧ x = y
  | [], [], x, y, _, _, h => ⟨rfl, (List.cons.inj h).2⟩
  | [], c :: b, x, y, _, hb, h => absurd (List.cons.inj h).1 (fun e => hb (by simp [e]))
  | c :: a, [], x, y, ha, _, h => absurd (List.cons.inj h).1 (fun e => ha (by simp [e]))
  | c :: a, d :: b, x, y, ha, hb, h => by
    obtain ⟨h1, h2⟩ := List.cons.inj h
    obtain ⟨h3, h4⟩ := split_mark (fun e => ha (List.mem_cons_of_mem _ e)) (fun e => hb (List.mem_cons_of_mem _ e)) h2
    exact ⟨by rw [h1, h3], h4⟩

def keyBytes : List Int → List UInt8
 | [] => []
 | n :: l => itoa n ++ 32 :: keyBytes l
theorem keyBytes_inj : ∀ {l m : List Int}, keyBytes l = keyBytes m → l = m
  | [], [], _ => rfl
  | [], m :: ms, h => by
    have := congrArg List.length h
    simp [keyBytes] at this
  | l :: ls, [], h => by
    have := congrArg List.length h
    simp [keyBytes] at this
  | l :: ls, m :: ms, h => by
    obtain ⟨h1, h2⟩ := split_mark (itoa_no32 _) (itoa_no32 _) h
    rw [itoa_inj h1, keyBytes_inj h2]
theorem keyBytes_snoc : ∀ (l : List Int) (n : Int), keyBytes (l ++ [n]) = keyBytes l ++ itoa n ++ [32]
 | [], n => by simp [keyBytes]
 | m :: l, n => by simp [keyBytes, keyBytes_snoc l n]
theorem keyBytes_len : ∀ (l : List Int), (∀ n ∈ l, -9223372036854775808 ≤ n ∧ n ≤ 9223372036854775807) → (keyBytes l).length ≤ 22 * l.length
  | [], _ => by simp [keyBytes]
  | m :: l, h => by
    have h1 := keyBytes_len l fun n hn => h n (by simp [hn])
    have h2 := h m (by simp)
    have h3 := itoa_length_le m h2.1 h2.2
    simp [keyBytes]
    omega
def keyVal (l : List Int) : Value := .string ⟨(keyBytes l).toArray⟩
theorem keyStr {κ : Type} [DecidableEq κ] {P : Program} {kt : TypeId} (hu : P.underlying kt = some .string) (bytes : κ → List UInt8) (hinj : ∀ a b, bytes a = bytes b → a = b) : KeyT P kt .string (fun l : κ => Value.string ⟨(bytes l).toArray⟩) :=
 ⟨hu, fun a b => by
  have : ((⟨(bytes a).toArray⟩ : ByteArray) == ⟨(bytes b).toArray⟩) = decide (a = b) := by
   rw [Bool.eq_iff_iff]
   show ByteArray.beq _ _ = true ↔ _
   simp only [ByteArray.beq, beq_iff_eq, decide_eq_true_eq]
   constructor
   ·intro h
    exact hinj _ _ (List.toArray_inj h)
   ·rintro rfl; rfl
  simp [Instr.sameNow, this], fun w em a => by
  rw [show (10000 : Nat) = 9999 + 1 from rfl, Instr.checkKey]
  simp [run_underlying hu]⟩
end

end Go.Proofs.YtippadnbngcjlaaGreatDoor
