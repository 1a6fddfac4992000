/- Texts of this seat, one behind the other: Csv. -/
import Derived.Test.YtchldahkcpbgcaaGreatDoorsk16
import Derived.Deep.RegionHeld
namespace Go.Proofs.YtchldahkcpbgcaaGreatDoor
set_option linter.unusedVariables false

/- The cells of a node's block, all at once. -/
section
open Go.RowKit
set_option linter.unusedSimpArgs false
section
variable {w : World} {g : Nat} {t : TypeId}
theorem Blk.cs {x : Nd} {h : HdN} (hB : Blk w g t (ndCells x h)) : w.cell? ⟨g, 0, none⟩ = some (.int .u8 x.kind) ∧ w.cell? ⟨g, 1, none⟩ = some (.string x.text) ∧ w.cell? ⟨g, 2, none⟩ = some (.int .i64 x.num) ∧ w.cell? ⟨g, 3, none⟩ = some (.slice h.As x.subs.length h.cs) ∧ w.cell? ⟨g, 4, none⟩ = some (.slice h.Ap x.params.length h.cp) ∧ w.cell? ⟨g, 5, none⟩ = some (.slice h.Ab x.body.length h.cb) ∧ w.cell? ⟨g, 6, none⟩ = some (.slice h.Ae x.els.length h.ce) :=
 ⟨hB.cell 0 rfl, hB.cell 1 rfl, hB.cell 2 rfl, hB.cell 3 rfl, hB.cell 4 rfl, hB.cell 5 rfl, hB.cell 6 rfl⟩
theorem Blk.es (hB : Blk w g t zeroN) : w.cell? ⟨g, 0, none⟩ = some (.int .u8 0) ∧ w.cell? ⟨g, 1, none⟩ = some (.string ⟨#[]⟩) ∧ w.cell? ⟨g, 2, none⟩ = some (.int .i64 0) ∧ w.cell? ⟨g, 3, none⟩ = some (.slice none 0 0) ∧ w.cell? ⟨g, 4, none⟩ = some (.slice none 0 0) ∧ w.cell? ⟨g, 5, none⟩ = some (.slice none 0 0) ∧ w.cell? ⟨g, 6, none⟩ = some (.slice none 0 0) :=
 ⟨hB.cell 0 rfl, hB.cell 1 rfl, hB.cell 2 rfl, hB.cell 3 rfl, hB.cell 4 rfl, hB.cell 5 rfl, hB.cell 6 rfl⟩
theorem Blk.fz {cs : Array Value} (hB : Blk w g t cs) : w.frozen? ⟨g, 0, none⟩ = false ∧ w.frozen? ⟨g, 1, none⟩ = false ∧ w.frozen? ⟨g, 2, none⟩ = false ∧ w.frozen? ⟨g, 3, none⟩ = false ∧ w.frozen? ⟨g, 4, none⟩ = false ∧ w.frozen? ⟨g, 5, none⟩ = false ∧ w.frozen? ⟨g, 6, none⟩ = false :=
 ⟨hB.frozen 0, hB.frozen 1, hB.frozen 2, hB.frozen 3, hB.frozen 4, hB.frozen 5, hB.frozen 6⟩
end
theorem lA {α : Type} (l : List α) (i : Nat) (a : α) : l.toArray.setIfInBounds i a = (l.set i a).toArray := List.setIfInBounds_toArray ..
theorem lZ {α : Type} (x : α) (l : List α) (a : α) : (x :: l).set 0 a = a :: l := List.set_cons_zero
theorem lS {α : Type} (x : α) (l : List α) (n : Nat) (a : α) : (x :: l).set (n + 1) a = x :: l.set n a := List.set_cons_succ
end

end Go.Proofs.YtchldahkcpbgcaaGreatDoor
