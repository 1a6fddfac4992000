/- Texts of this seat, one behind the other: ScD, ScL, ScN. -/
import Derived.Test.YtchldahkcpbgcaaGreatDoorsk38
import Derived.Deep.RegionHeld
import Derived.Test.YtchldahkcpbgcaaGreatDoorsk39
namespace Go.Proofs.YtchldahkcpbgcaaGreatDoor
set_option linter.unusedVariables false

/- What a scope says of one statement, of statements. -/
section
open Go.RowKit
set_option linter.unusedSimpArgs false
section
variable {ar : ByteArray → Option Int} {st : Option Int} {x : Nd} {c : Sc}
end
end

/- What a scope says of statements; all of it by induction. -/
section
open Go.RowKit
set_option linter.unusedSimpArgs false
section
variable {B b mb : Nat} {stv : Value} {st : Option Int} {c c' : Sc} {w w' : World} {ar : ByteArray → Option Int} {x : Nd} {l : List Nd}
end
end

/- arities: how many parameters each function has. -/
section
open Go.RowKit
set_option linter.unusedSimpArgs false
def RetAr (w : World) (fs : List Fu) (en : Ending) (w' : World) : Prop :=
 Fr [] w w' ∧ if twiceB [] fs then en = .returned (.tuple #[.map none, .bool false]) else ∃ mb, en = .returned (.tuple #[.map (some mb), .bool true]) ∧ w.heap.size ≤ mb ∧ ArAt w' mb (arL fs)
theorem RetAr.two {w w' : World} {fs : List Fu} {en : Ending} (h : twiceB [] fs = true) (hf : Fr [] w w') (he : en = .returned (.tuple #[.map none, .bool false])) : RetAr w fs en w' := ⟨hf, by rw [if_pos h]; exact he⟩
theorem RetAr.one {w w' : World} {fs : List Fu} {en : Ending} {mb : Nat} (h : twiceB [] fs = false) (hf : Fr [] w w') (he : en = .returned (.tuple #[.map (some mb), .bool true])) (hm : w.heap.size ≤ mb) (ha : ArAt w' mb (arL fs)) : RetAr w fs en w' := ⟨hf, by rw [if_neg (by simp [h])]; exact ⟨mb, he, hm, ha⟩⟩
end

end Go.Proofs.YtchldahkcpbgcaaGreatDoor
