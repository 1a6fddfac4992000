/- Texts of this seat, one behind the other: Lex. -/
import Derived.Test.YtchldahkcpbgcaaGreatDoorsk2
import Derived.Test.YtchldahkcpbgcaaGreatDoorProg
import Derived.Lib.QuietBelow
namespace Go.Proofs.YtchldahkcpbgcaaGreatDoor
set_option linter.unusedVariables false

/- The operations of a region of a function, and that they may be walked in the text's order: shown once for a region. -/
section
open Go.RowKit Go.Sort
end

end Go.Proofs.YtchldahkcpbgcaaGreatDoor
