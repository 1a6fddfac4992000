/- Texts of this seat, one behind the other: Row. -/
import Derived.Test.YtippadnbngcjlaaGreatDoorh11
import Derived.OpenShut
namespace Go.Proofs.YtippadnbngcjlaaGreatDoor
set_option linter.unusedVariables false

/- Slices of numbers that came in read as lists. -/
section
open Go.RowKit
theorem wf_u8 {n : Int} (h : (Lit.int .u8 n).wf = true) : 0 ≤ n ∧ n ≤ 255 := by
 simp [Lit.wf, IntKind.min, IntKind.max, IntKind.signed, IntKind.bits] at h
 exact ⟨h.1, by omega⟩
theorem wf_u64 {n : Int} (h : (Lit.int .u64 n).wf = true) : 0 ≤ n ∧ n ≤ 18446744073709551615 := by
 simp [Lit.wf, IntKind.min, IntKind.max, IntKind.signed, IntKind.bits] at h
 exact ⟨h.1, by omega⟩
def IsRow (k : IntKind) (w : World) (a : Option Addr) (len cap : Nat) (zs : List Int) : Prop :=
 (a = none ∧ len = 0 ∧ cap = 0 ∧ zs = []) ∨
 ∃ x, a = some x ∧ len ≤ cap ∧ cap ≤ maxLen ∧ zs.length = cap ∧ (∀ i, i < zs.length → w.cell? (x.add i) = some (.int k (zs.getD i 0))) ∧ ∀ n ∈ zs, (Lit.int k n).wf = true
theorem IsRow.rd {k : IntKind} {w : World} {a : Option Addr} {len cap : Nat} {zs : List Int} (h : IsRow k w a len cap zs) : ∃ xs : List Int, xs.length = len ∧ Rd w (.int k) a cap xs ∧ ∀ n ∈ xs, (Lit.int k n).wf = true := by
 rcases h with ⟨rfl, rfl, rfl, rfl⟩ | ⟨x, rfl, hl, hm, hz, hc, hw⟩
 ·exact ⟨[], rfl, Rd.nil_ _ _, by simp⟩
 ·refine ⟨zs.take len, by simp; omega, ⟨by simp; omega, hm, fun h0 => ?_⟩, fun n hn => hw n (List.mem_of_mem_take hn)⟩
  simp at h0
  obtain ⟨b, off, spot⟩ := x
  have h1 := hc 0 (by omega)
  have hs : spot = none := by simpa [Addr.add] using World.cell?_spot h1
  subst hs
  refine ⟨b, off, rfl, fun i y hy => ?_⟩
  have hi : i < len := by
   have := (List.getElem?_eq_some_iff.1 hy).1
   simp at this; omega
  have h2 := hc i (by omega)
  rw [Addr.add_lit] at h2
  rw [h2]
  rw [List.getElem?_take, if_pos hi] at hy
  simp [hy]
end

end Go.Proofs.YtippadnbngcjlaaGreatDoor
