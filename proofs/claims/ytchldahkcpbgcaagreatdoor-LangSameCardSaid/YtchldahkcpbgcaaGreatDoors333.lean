/- Texts of this seat, one behind the other: Lex. -/
import Derived.Test.YtchldahkcpbgcaaGreatDoors32
import Derived.Test.YtchldahkcpbgcaaGreatDoorProg
import Derived.Lib.QuietBelow
namespace Go.Proofs.YtchldahkcpbgcaaGreatDoor
set_option linter.unusedVariables false

/- The operations of a region of a function, and that they may be walked in the text's order: shown once for a region. -/
section
open Go.RowKit Go.Sort
def regOps (id : Nat) : Code → Option (Array Oper)
  | .region i ops _ => if i = id then some ops else none
  | .seq a b => match regOps id a with
    | some o => some o
    | none => regOps id b
  | .cond _ a b => match regOps id a with
    | some o => some o
    | none => regOps id b
  | .block _ b => regOps id b
  | .loop b => regOps id b
  | .scope b => regOps id b
  | .rangeFunc _ _ _ b => regOps id b
  | _ => none
def regLex (id : Nat) (f : Option Func) : Bool := match f with
  | some fn => match fn.body with
    | some c => match regOps id c with
      | some o => Region.lexB .any o
      | none => false
    | none => false
  | none => false
theorem lexSameNodes : regLex 6 Tryz.prog.funcs[38]? = true := by kernel_rfl
theorem lexSameF : regLex 6 Tryz.prog.funcs[19]? = true := by kernel_rfl
end

end Go.Proofs.YtchldahkcpbgcaaGreatDoor
