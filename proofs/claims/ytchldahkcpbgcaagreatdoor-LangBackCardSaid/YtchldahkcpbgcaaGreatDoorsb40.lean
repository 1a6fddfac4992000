/- Texts of this seat, one behind the other: Csv. -/
import Derived.Test.YtchldahkcpbgcaaGreatDoorsb16
import Derived.Deep.RegionHeld
namespace Go.Proofs.YtchldahkcpbgcaaGreatDoor
set_option linter.unusedVariables false

/- The cells of a node's block, all at once. -/
section
open Go.RowKit
set_option linter.unusedSimpArgs false
section
variable {w : World} {g : Nat} {t : TypeId}
theorem Blk.cs {x : Nd} {h : HdN} (hB : Blk w g t (ndCells x h)) : w.cell? ⟨g, 0, none⟩ = some (.int .u8 x.kind) ∧ w.cell? ⟨g, 1, none⟩ = some (.string x.text) ∧ w.cell? ⟨g, 2, none⟩ = some (.int .i64 x.num) ∧ w.cell? ⟨g, 3, none⟩ = some (.slice h.As x.subs.length h.cs) ∧ w.cell? ⟨g, 4, none⟩ = some (.slice h.Ap x.params.length h.cp) ∧ w.cell? ⟨g, 5, none⟩ = some (.slice h.Ab x.body.length h.cb) ∧ w.cell? ⟨g, 6, none⟩ = some (.slice h.Ae x.els.length h.ce) :=
 ⟨hB.cell 0 rfl, hB.cell 1 rfl, hB.cell 2 rfl, hB.cell 3 rfl, hB.cell 4 rfl, hB.cell 5 rfl, hB.cell 6 rfl⟩
end
theorem tkH {P : Program} {md : Region.Mode} {ops : Array Oper} {Q : Exit → Act → World → Prop} {S : World → Prop} {oi : Oper} {fuel : Nat} {listed : Array Bool} {a : Act} {w : World} (i : Nat) (v : Value) (hi : ops[i]? = some oi := by rfl) (hs : Region.noSelect ops = true := by kernel_rfl)
  (hf : Region.free md ops listed i = true := by kernel_rfl) (hr : (Region.ready md ops listed).contains i = true := by kernel_rfl) (hQ : ∀ c a w, Q (.panic c) (a.put oi.dst v) w → Q (.panic c) a w := by exact fun _ _ _ h => h) (hw : Region.wanted oi (yielded ops a.tmps) = true := by rfl) (hS : S w := by assumption)
  (y : ∀ w, S w → (execOp a.eval oi).run P w = .ok (.value v) w) (h : wpAnyH P md ops Q S fuel (listed.setIfInBounds i true) (a.put oi.dst v) w) : wpAnyH P md ops Q S (fuel + 1) listed a w :=
 wpAnyH_take hi hs hf hr hQ (.inl ⟨hw, y⟩) hS h
theorem lA {α : Type} (l : List α) (i : Nat) (a : α) : l.toArray.setIfInBounds i a = (l.set i a).toArray := List.setIfInBounds_toArray ..
theorem lZ {α : Type} (x : α) (l : List α) (a : α) : (x :: l).set 0 a = a :: l := List.set_cons_zero
theorem lS {α : Type} (x : α) (l : List α) (n : Nat) (a : α) : (x :: l).set (n + 1) a = x :: l.set n a := List.set_cons_succ
end

end Go.Proofs.YtchldahkcpbgcaaGreatDoor
