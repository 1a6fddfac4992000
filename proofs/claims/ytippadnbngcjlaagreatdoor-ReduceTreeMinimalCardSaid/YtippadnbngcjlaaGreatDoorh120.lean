/- Texts of this seat, one behind the other: Pick2, Pick3, Pick4. -/
import Derived.Test.YtippadnbngcjlaaGreatDoorh14
import Derived.Laws.StructEq
namespace Go.Proofs.YtippadnbngcjlaaGreatDoor
set_option linter.unusedVariables false

/- later, SamePicks. -/
section
open Go.RowKit
end

/- joined, Normal. -/
section
open Go.RowKit
def joinStep (out : List Pk) (p : Pk) : List Pk :=
 match out.getLast? with
 | some q => if q.1 = p.1 then out.set (out.length - 1) (q.1, q.2 + p.2) else out ++ [p]
 | none => [p]
def joinedOf (ps : List Pk) : List Pk := ps.foldl joinStep []
end

/- Normal, Preemptions. -/
section
open Go.RowKit
def checkP : Int → List Pk → Int
 | _, [] => 0
 | s, p :: ps => if p.1 < 0 ∨ 8 ≤ p.1 ∨ p.2 < 1 then 1 else if 65536 - s < p.2 then 3 else checkP (s + p.2) ps
def normal (ps : List Pk) : List Pk × Int := if checkP 0 ps = 0 then (joinedOf ps, 0) else ([], checkP 0 ps)
def RetNums (w : World) (r : List Int × Int) (e : Ending) (w' : World) : Prop :=
 ∃ A c, e = .returned (.tuple #[.slice A r.1.length c, .int .i64 r.2]) ∧ Fr [] w w' ∧ w'.ownsRow w.heap.size 3 1 (.slice A r.1.length c) r.1.length (r.1.map (.int .i64))
theorem RetNums.ok {w w1 : World} {r : List Int × Int} {er : Int} {n c : Nat} {A : Option Addr} {zs : List Int} (hf : Fr [] w w1) (ho : w1.ownsRow w.heap.size 3 1 (.slice A n c) n (zs.map (.int .i64))) (h : r = (zs, er)) : RetNums w r (.returned (.tuple #[.slice A n c, .int .i64 er])) w1 := by
 subst h
 obtain ⟨hn, _⟩ := Rd.of_own ho
 subst hn
 exact ⟨A, c, rfl, hf, ho⟩
end

end Go.Proofs.YtippadnbngcjlaaGreatDoor
