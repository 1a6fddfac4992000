/- Texts of this seat, one behind the other: Ask, Ask2, Ask3. -/
import Derived.Test.YtippadnbngcjlaaGreatDoorh13
import Derived.Test.YtippadnbngcjlaaGreatDoorh118
import Derived.Deep.RegionLaw
namespace Go.Proofs.YtippadnbngcjlaaGreatDoor
set_option linter.unusedVariables false

/- The reference's ask: each set once. -/
section
open Go.RowKit
end

/- The reference's ask: what has been asked lies in the play. -/
section
open Go.RowKit
section
variable {w w' : World} {bp g B n : Nat} {x0 x1 S T x4 x5 : Value} {rows : List Value}
end
def encSl (t : Option Addr × Nat × Nat) : Value := .slice t.1 t.2.1 t.2.2
theorem elemSl : Elem Tryz.prog 28 53 (.slice none 0 0) 1 24 := ⟨Tryz.underlying28, by kernel_rfl, rfl, by omega, by omega⟩
theorem elemVe : Elem Tryz.prog 38 46 (.int .u8 0) 1 1 := ⟨Tryz.underlying38, by kernel_rfl, rfl, by omega, by omega⟩
theorem own_ne_blk {w : World} {B g n : Nat} {e t : TypeId} {size : Nat} {v : Value} {xs : List Value} {cs : Array Value} (h : w.ownsRow B e size v n xs) (hb : Blk w g t cs) (ht : t ≠ e) (k : Nat) (hk : v.ownBlock = some k) : k ≠ g := by
 rintro rfl
 rcases h.2 with ⟨rfl, _⟩ | ⟨g', cap, cur, rfl, _, hh, _⟩
 ·cases hk
 ·have : g' = k := by simpa [Value.ownBlock] using hk
  subst this
  rw [hb] at hh
  injection hh with hh
  injection hh with h1 h2 h3
  exact ht h2
theorem own_ne_own {w : World} {B B' n m : Nat} {e t : TypeId} {size size' : Nat} {v u : Value} {xs ys : List Value} (h : w.ownsRow B e size v n xs) (h' : w.ownsRow B' t size' u m ys) (ht : t ≠ e) (k : Nat) (hk : v.ownBlock = some k) : u.ownBlock ≠ some k := by
 intro hu
 rcases h'.2 with ⟨rfl, _⟩ | ⟨g', cap, cur, rfl, _, hh, _⟩
 ·cases hu
 ·have : g' = k := by simpa [Value.ownBlock] using hu
  subst this
  exact own_ne_blk h (show Blk w g' t cur from hh) ht g' hk rfl
theorem frOfGrown {w w' : World} {row : Option Nat} (hg : w.grownBy w' row) : Fr row.toList w w' := (Fr.refl _ w).grown hg fun k hk => .inl (by simp [hk])
end

/- The reference's ask: each set once; the walk. -/
section
open Go.RowKit
end

end Go.Proofs.YtippadnbngcjlaaGreatDoor
