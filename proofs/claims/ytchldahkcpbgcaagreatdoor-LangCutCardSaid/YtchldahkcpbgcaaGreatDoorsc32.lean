/- Texts of this seat, one behind the other: Sam, Sam2, Sam3. -/
import Derived.Test.YtchldahkcpbgcaaGreatDoorsc4
import Derived.Test.YtchldahkcpbgcaaGreatDoorsc1
import Derived.LoopTactic
import Derived.Deep.QuietTactic
import Derived.BigQuiet
import Derived.Deep.DeepCutAuto
namespace Go.Proofs.YtchldahkcpbgcaaGreatDoor
set_option linter.unusedVariables false

/- Same of the program. -/
section
open Go.RowKit
set_option linter.unusedSimpArgs false
end

/- The closures of sameNodes and Same; Same of the program (printed by gen/sam2.py). -/
section
open Go.RowKit
set_option linter.unusedSimpArgs false
end

/- Same of the program. -/
section
open Go.RowKit
set_option linter.unusedSimpArgs false
end

end Go.Proofs.YtchldahkcpbgcaaGreatDoor
