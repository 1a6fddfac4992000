/- Texts of this seat, one behind the other: FKepa. -/
import Derived.Test.YtchldahkcpbgcaaGreatDoorRows
import Derived.Test.YtchldahkcpbgcaaGreatDoorsk46
import Derived.Test.YtchldahkcpbgcaaGreatDoorsk47
import Derived.Test.YtchldahkcpbgcaaGreatDoorsk48
import Derived.Test.YtchldahkcpbgcaaGreatDoorCards
import Derived.Test.YtchldahkcpbgcaaGreatDoorTie
import Derived.SevenTiedAt
import Derived.WalkKit
import Derived.ProofKit
import Derived.OpenShut
import Derived.ShutString
import Derived.ChangeOld
import Derived.Below
/- LangKept: for every input the call returns true, and what was there reads as it read (no condition). -/
namespace Go.Proofs.YtchldahkcpbgcaaGreatDoor.langKept
open Go.ChangeShapes Go.WideShapes Go.ChangeAt Go.RowKit
open Go.ChangeMaps (open_string shut_string)
set_option linter.unusedVariables false
theorem own : ownKnob Tryz.prog.godebug = none := by kernel_rfl
theorem laidOut : laidOutB Tryz.prog = true := by kernel_rfl
set_option maxRecDepth 100000 in
set_option maxHeartbeats 1600000 in
theorem lifted (os : Os) (started : os.Started) (H : Type) (enc : TypeId × Value → H) :
  ReturnsInHanded {} Tryz.checked os 10 .any (fun w args => (Rows.langKeptSpec.pre enc Tryz.prog Tryz.f10 [] false w args ∧ laidMetH Tryz.prog laidL w) ∧ sizedMet enc Tryz.prog Tryz.f10 (OpenSpec.ofChange Rows.langKeptSpec) false w args) (Rows.langKeptSpec.post enc Tryz.prog Tryz.f10 false true false false) := by
 refine returnsInHanded_of_change_and (C := Tryz.checked) (X := fun w _ => laidMetH Tryz.prog laidL w) (fun _ _ _ hh h => h.of_heap hh) own started (by kernel_rfl) Tryz.func10
  (ChangeSpec.witness_shaped (enc := enc) (C := Tryz.checked) (os := os) (X := fun w _ => laidMetH Tryz.prog laidL w) false (World.doorLaid Tryz.prog 62 os) #[.agg #[.slice none 0 0], .agg #[.int .i64 0, .slice none 0 0, .slice none 0 0]] 8 rfl (World.shaped_of_RefB (by kernel_rfl) (by kernel_rfl)) (by kernel_rfl) (by kernel_rfl) (by kernel_rfl) (door_met os _)) ?_
 intro W base args ds gs before hval0 hW _ hwt hL _
 have htab := tab_of_laid hL
 have hval : ∀ (j : Nat) t v, Tryz.f10.params[j]? = some t → args[j]? = some v → Value.okWide Tryz.prog W .any base t v := hval0
 have hW' := hW
 obtain ⟨p, q, hA0, hV, rfl, hfz, hnd⟩ := hW
 have hA : DataW.TrodAll enc Tryz.prog W 0 (fun _ => true) true Tryz.f10.params.toList args.toList ds p := hA0
 rw [Tryz.params10] at hA hval
 obtain ⟨v0, vs0, d0, ds0, p0, q0, hargs, rfl, rfl, h0, r0⟩ := trodAll_cons hA
 obtain ⟨v1, vs1, d1, ds1, p1, q1, rfl, rfl, rfl, h1, r1⟩ := trodAll_cons r0
 obtain ⟨rfl, rfl, rfl⟩ := trodAll_nil r1
 obtain rfl : args = #[v0, v1] := by cases args; simp_all
 obtain ⟨rfl, rfl⟩ := trodVars_none hV
 have wb0 : WB Tryz.prog 25 d0 := fun k hk => by simpa using List.all_eq_true.1 hwt k (weightsEach_mem (i := 0) (by kernel_rfl) rfl k hk)
 have wb1 : WB Tryz.prog 52 d1 := fun k hk => by simpa using List.all_eq_true.1 hwt k (weightsEach_mem (i := 1) (by kernel_rfl) rfl k hk)
 have k0 := h0
 have lt0 : ∀ x ∈ p0, x.block < W.heap.size := by obtain ⟨m, hm⟩ := k0; exact DataW.trod_lt m _ _ _ hm
 obtain ⟨a0, c0, n0, x0, rfl, rd0, tm0, fl0⟩ := prog_open (hval 0 25 v0 rfl rfl) h0 wb0
 have k1 := h1
 have lt1 : ∀ x ∈ p1, x.block < W.heap.size := by obtain ⟨m, hm⟩ := k1; exact DataW.trod_lt m _ _ _ hm
 obtain ⟨z1, a1, c1, n1, x1, b1, e1, y1, rfl, rd1, tm1, rk1, bk1⟩ := change_open (hval 1 52 v1 rfl rfl) h1 wb1
 clear hA0 hval0
 have hwalk := LKept_any (nw := 0) (Aw := a1) (cw := c1) z1 rd0 tm0 fl0 rk1 rd1.len htab
 refine hwalk.mono fun e W' ⟨he, hbel⟩ => ?_
 have bel := hbel.below
 subst he
 exact ⟨_, rfl, _, _, _, [], _, [], hW', trodAll_mk1 (shut_bool Tryz.underlying4 _), (trodAll_cons_mk (Below.trod laidOut (by kernel_rfl) (of_decide_eq_true (by kernel_rfl)) k0 bel lt0) (trodAll_cons_mk (Below.trod laidOut (by kernel_rfl) (of_decide_eq_true (by kernel_rfl)) k1 bel lt1) trodAll_mk0)), rfl, bel.frame _, fun h => by cases h⟩
end Go.Proofs.YtchldahkcpbgcaaGreatDoor.langKept
