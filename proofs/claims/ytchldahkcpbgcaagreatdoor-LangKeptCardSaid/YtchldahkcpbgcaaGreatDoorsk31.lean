/- Texts of this seat, one behind the other: LivM. -/
import Derived.Test.YtchldahkcpbgcaaGreatDoorsk24
import Derived.Test.YtchldahkcpbgcaaGreatDoorsk30
import Derived.Test.YtchldahkcpbgcaaGreatDoorsk11
namespace Go.Proofs.YtchldahkcpbgcaaGreatDoor
set_option linter.unusedVariables false

/- The first example of the chapter: plain. -/
section
open Go.RowKit
set_option linter.unusedSimpArgs false
def printO (fs : List Fu) : ByteArray × Int := if shapeP fs ≠ 0 then (bt [], shapeP fs) else if 65536 < (progB fs).length then (bt [], 3) else (bt (progB fs), 0)
abbrev firstS : ByteArray := ⟨#[102, 117, 110, 32, 109, 97, 105, 110, 40, 41, 32, 123, 32, 108, 101, 116, 32, 120, 32, 61, 32, 49, 59, 32, 119, 104, 105, 108, 101, 32, 120, 32, 60, 32, 57, 32, 123, 32, 120, 32, 61, 32, 120, 32, 42, 32, 50, 59, 32, 125, 32, 112, 114, 105, 110, 116, 32, 120, 59, 32, 125]⟩
abbrev firstT : ByteArray := ⟨#[102, 117, 110, 32, 109, 97, 105, 110, 40, 41, 32, 123, 10, 32, 32, 108, 101, 116, 32, 120, 32, 61, 32, 49, 59, 10, 32, 32, 119, 104, 105, 108, 101, 32, 120, 32, 60, 32, 57, 32, 123, 10, 32, 32, 32, 32, 120, 32, 61, 32, 120, 32, 42, 32, 50, 59, 10, 32, 32, 125, 10, 32, 32, 112, 114, 105, 110, 116, 32, 120, 59, 10, 125, 10]⟩
def firstF : List Fu := [⟨bt [109, 97, 105, 110], [], [.mk 14 (bt [120]) 0 [.mk 1 (bt []) 1 [] [] [] []] [] [] [],
 .mk 18 (bt []) 0 [.mk 4 (bt [60]) 0 [.mk 2 (bt [120]) 0 [] [] [] [], .mk 1 (bt []) 9 [] [] [] []] [] [] []] [] [.mk 15 (bt [120]) 0 [.mk 4 (bt [42]) 0 [.mk 2 (bt [120]) 0 [] [] [] [], .mk 1 (bt []) 2 [] [] [] []] [] [] []] [] [] []] [],
 .mk 25 (bt []) 0 [.mk 2 (bt [120]) 0 [] [] [] []] [] [] []]⟩]
set_option maxRecDepth 100000 in
theorem first_shape : shapeP firstF = 0 := by decide +kernel
set_option maxRecDepth 100000 in
theorem first_count : countP firstF = 4 := by decide +kernel
set_option maxRecDepth 100000 in
theorem first_where : whereO firstF 2 = (⟨0, false, 1, 1, 0, 1⟩, 0) := by decide +kernel
set_option maxRecDepth 100000 in
theorem first_print : progB firstF = firstT.data.toList := by decide +kernel
set_option maxRecDepth 100000 in
theorem first_parse : parseO firstS = (firstF, 0, 0) := by kernel_rfl
end

end Go.Proofs.YtchldahkcpbgcaaGreatDoor
