/- Texts of this seat, one behind the other: Bld. -/
import Derived.Test.YtchldahkcpbgcaaGreatDoorsk1
import Derived.Test.YtchldahkcpbgcaaGreatDoorsk2
import Derived.Test.YtchldahkcpbgcaaGreatDoorProg
import Derived.Shelf.Strings.BuilderK
import Derived.Outline
namespace Go.Proofs.YtchldahkcpbgcaaGreatDoor
set_option linter.unusedVariables false

/- strings.Builder: copyCheck and WriteString (the shelf's own words do not fit this dump: its panic's way is refused by the loader). -/
section
open Go.RowKit
set_option linter.unusedSimpArgs false
theorem bld_size : (Tryz.prog.info? 108).map (·.size) = some 2 := by kernel_rfl
theorem bld_byte : (Tryz.prog.info? 5).map (fun i => (i.zero, i.size, i.bytes)) = some (some (.int .u8 0), 1, 1) := by kernel_rfl
end

end Go.Proofs.YtchldahkcpbgcaaGreatDoor
