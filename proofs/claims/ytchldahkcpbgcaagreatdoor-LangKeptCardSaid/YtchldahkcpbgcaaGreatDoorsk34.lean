/- Texts of this seat, one behind the other: RSam, RSam2. -/
import Derived.Test.YtchldahkcpbgcaaGreatDoorsk32
import Derived.Lib.QuietBelow
import Derived.Test.YtchldahkcpbgcaaGreatDoorsk33
namespace Go.Proofs.YtchldahkcpbgcaaGreatDoor
set_option linter.unusedVariables false

/- sameStrings, SameNodes, Same of the reference (printed by gen/rsam.py). -/
section
open Go.RowKit Go.Sort
set_option linter.unusedSimpArgs false
end

/- Same of the reference (printed by gen/rsam2.py). -/
section
open Go.RowKit Go.Sort
set_option linter.unusedSimpArgs false
end

end Go.Proofs.YtchldahkcpbgcaaGreatDoor
