/- Texts of this seat, one behind the other: ScF. -/
import Derived.Test.YtchldahkcpbgcaaGreatDoorsk40
import Derived.Test.YtchldahkcpbgcaaGreatDoorsk22
import Derived.Laws.EntriesVeiled
namespace Go.Proofs.YtchldahkcpbgcaaGreatDoor
set_option linter.unusedVariables false

/- A function's scope; Check. -/
section
open Go.RowKit
set_option linter.unusedSimpArgs false
theorem cntL_of {fs : List Fu} {f : Fu} (h : f ∈ fs) : cntL f.body ≤ cntF fs := by
 unfold cntF
 obtain ⟨a, b, rfl⟩ := List.append_of_mem h
 simp
 omega
end

end Go.Proofs.YtchldahkcpbgcaaGreatDoor
