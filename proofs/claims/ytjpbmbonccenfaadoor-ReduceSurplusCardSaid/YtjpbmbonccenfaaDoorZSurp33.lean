/- Texts of this seat, one behind the other: HeldR. -/
import Derived.Test.YtjpbmbonccenfaaDoorZSurp11
import Derived.OrdersIn
import Derived.Deep.RegionHeld
import Derived.RangeFuncCalls
/- A region that draws its order, in a round of a range over a function: by the laws of the plain walk. -/
namespace Go.Proofs.YtjpbmbonccenfaaDoor
open Go Go.RowKit
set_option linter.unusedVariables false

/-- No operation is a defer statement. -/
def noDeferB (ops : Array Oper) : Bool := ops.all fun o => match o.op with | .defer _ => false | _ => true
theorem noDefer_at {ops : Array Oper} (h : noDeferB ops = true) {j : Nat} {o : Oper} (ho : ops[j]? = some o) (c : Call) : o.op ≠ .defer c := by
  intro he
  have h1 := Array.all_eq_true.1 h j (Array.getElem?_eq_some_iff.1 ho).1
  rw [(Array.getElem?_eq_some_iff.1 ho).2, he] at h1
  cases h1

section
variable {P : Program} {ops : Array Oper} {md : Region.Mode} {Q : Exit → Act → World → Prop} {l : Nat} {S : World → Prop}
theorem rowsIn_round {row : String} {args : Array Value} {w : World} {R : Value → World → Prop} (h : Rows P row args w R) : RowsIn (Fence.wide.inRound l) 0 P row args w R :=
  fun c cs _ => let ⟨v, w', r, s⟩ := h c cs; ⟨v, w', r, stepsIn_wide.2 s⟩
theorem wpIn_of_wpR {o : Oper} {a : Act} {w : World} {K : Act → World → Prop} (hd : ∀ c, o.op ≠ .defer c) (h : o.wp P a w K Q) : o.wpIn (Fence.wide.inRound l) 0 P a w K Q := by
  unfold Oper.wp at h
  unfold Oper.wpIn
  refine ⟨fun _ _ => trivial, ?_⟩
  have e : o.semAt (Fence.wide.inRound l).round a.eval = execOp a.eval o := Oper.semAt_eq _ _ _ hd
  rw [e]
  generalize (execOp a.eval o).run P w = r at *
  cases r with
  | ok n w' =>
    cases n <;> simp only [Oper.upon] at h <;> simp only [Oper.uponIn]
    case enter f args => exact ⟨fun h0 => (by cases h0), CallsIn.inRound _ (callsIn_wide.2 h)⟩
    case row row args => exact ⟨fun h0 => (by cases h0), rowsIn_round h⟩
    all_goals first | exact h | exact h.elim
  | halt x w' => cases x <;> simp only [Oper.upon] at h <;> simp only [Oper.uponIn] <;> first | exact h | exact h.elim
theorem wpOpIn_of_wpOp {i : Nat} {K : Act → World → Prop} {a : Act} {w : World} (hnd : noDeferB ops = true) (hL : ¬ LetsOut Q) (h : wpOp P ops Q i K a w) : wpOpIn (Fence.wide.inRound l) 0 P ops Q i K a w := by
  unfold wpOp at h
  unfold wpOpIn
  split
  · rename_i ho; simpa [ho] using h
  · rename_i o ho
    simp only [ho] at h
    split
    · rename_i hw
      simp only [hw, if_true] at h
      rcases h with h | ⟨_, h⟩
      · exact wpIn_of_wpR (fun c => noDefer_at hnd ho c) h
      · exact absurd h hL
    · rename_i hw
      exact ⟨fun _ _ => trivial, by simpa [hw] using h⟩
theorem wpAnyIn_of_held (hnd : noDeferB ops = true) (hL : ¬ LetsOut Q) : ∀ (fuel : Nat) (listed : Array Bool) (a : Act) (w : World), wpAnyH P md ops Q S fuel listed a w → wpAnyIn (Fence.wide.inRound l) 0 P md ops Q fuel listed a w
  | 0, _, _, _, h => h
  | fuel + 1, _, _, _, h => ⟨h.1, fun i hi => wpOpIn_of_wpOp hnd hL (wpOp_mono (fun a' w' h' => wpAnyIn_of_held hnd hL fuel _ a' w' h'.2) (h.2 i hi))⟩
/-- The beginning of a region in a round; S is shown of the world behind the draw. -/
theorem wpIn_region_heldR {id : Nat} {a : Act} {w : World} (hm : P.follows .mixedOrders = true) (hnd : noDeferB ops = true) (hL : ¬ LetsOut Q) (hS : S w.drew)
    (h : S w.drew → wpAnyH P .any ops Q S ops.size (Array.replicate ops.size false) a w.drew) : (Code.region id ops true).wpIn (Fence.wide.inRound l) 0 P Q a w :=
  wpIn_region_any hm (wpAnyIn_of_held hnd hL _ _ _ _ (h hS))
end
end Go.Proofs.YtjpbmbonccenfaaDoor
