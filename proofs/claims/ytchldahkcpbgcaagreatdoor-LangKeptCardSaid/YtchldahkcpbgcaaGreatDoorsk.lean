/- LangKept: for every input the call returns true, and what was there reads as it read (no condition). -/
import Derived.Test.YtchldahkcpbgcaaGreatDoorsk49
import Derived.Test.YtchldahkcpbgcaaGreatDoorRows
import Derived.Test.YtchldahkcpbgcaaGreatDoorsk46
import Derived.Test.YtchldahkcpbgcaaGreatDoorsk47
import Derived.Test.YtchldahkcpbgcaaGreatDoorsk48
import Derived.Test.YtchldahkcpbgcaaGreatDoorCards
import Derived.Test.YtchldahkcpbgcaaGreatDoorTie
import Derived.SevenTiedAt
import Derived.WalkKit
import Derived.ProofKit
import Derived.OpenShut
import Derived.ShutString
import Derived.ChangeOld
import Derived.Below
namespace Go.Proofs.YtchldahkcpbgcaaGreatDoor.langKept
open Go.ChangeShapes Go.WideShapes Go.ChangeAt Go.RowKit
open Go.ChangeMaps (open_string shut_string)
set_option linter.unusedVariables false

theorem k0 : (Rows.langKeptRow.wf (OpenSpec.ofChange Rows.langKeptSpec)) = true := by kernel_rfl
theorem k1 : (laidOutB Tryz.prog) = true := by kernel_rfl
theorem k2 : (mapsRowed Tryz.prog) = true := by kernel_rfl
theorem k3 : (Tryz.f10.params.all (Tryz.prog.readableRec ·)) = true := by kernel_rfl
theorem k4 : (namedTie Tryz.prog Rows.langKeptRow.named Rows.langKeptSpec.vars) = true := by kernel_rfl
theorem k5 : (Rows.langKeptRow.stops == []) = true := by kernel_rfl
theorem k6 : (Tryz.prog.stops == []) = true := by kernel_rfl
theorem k7 : (Rows.langKeptRow.knobs == []) = true := by kernel_rfl
theorem k8 : (Tryz.prog.stopKnobs == []) = true := by kernel_rfl
theorem k9 : (Rows.langKeptRow.inPlace == Tryz.prog.inPlace 10) = true := by kernel_rfl
theorem k10 : (Rows.langKeptRow.unfollowed == Tryz.prog.unfollowed 10) = true := by kernel_rfl
theorem k11 : (Rows.langKeptRow.recurses == Tryz.prog.recurses 10) = true := by kernel_rfl
theorem k12 : (Rows.langKeptRow.named == Tryz.prog.varsNamed 10) = true := by kernel_rfl
theorem k13 : (Rows.langKeptRow.maps == (Tryz.f10.params.toList ++ Rows.langKeptSpec.plain.varTypes Tryz.prog).any (Tryz.prog.mapsRec ·)) = true := by kernel_rfl
theorem k14 : (Rows.langKeptRow.ifaces == (Tryz.f10.params.toList ++ Rows.langKeptSpec.plain.varTypes Tryz.prog).any (Tryz.prog.ifacesRec ·)) = true := by kernel_rfl
theorem k15 : (Rows.langKeptRow.mapsOut == Tryz.prog.mapsAmong Tryz.f10.resultTypes.toList) = true := by kernel_rfl
theorem k16 : (Rows.langKeptRow.loops == (Tryz.f10.params.toList ++ Rows.langKeptSpec.plain.varTypes Tryz.prog).any (Tryz.prog.loopsFrom ·)) = true := by kernel_rfl
theorem k17 : (Rows.langKeptRow.wideKeys == (Tryz.f10.params.toList ++ Rows.langKeptSpec.plain.varTypes Tryz.prog ++ Tryz.f10.resultTypes.toList).any (Tryz.prog.wideKeysFrom ·)) = true := by kernel_rfl
theorem k18 : (Rows.langKeptSpec.vars.all (Tryz.prog.varReadable ·)) = true := by kernel_rfl
theorem k19 : (Tryz.f10.resultTypes.all (fun t => Tryz.prog.readableRec t && decide (t < Tryz.prog.types.size))) = true := by kernel_rfl
theorem k20 : (Rows.langKeptRow.ifacesOut == Tryz.f10.resultTypes.toList.any (Tryz.prog.ifacesRec ·)) = true := by kernel_rfl
theorem k21 : (Rows.langKeptRow.loopsOut == Tryz.f10.resultTypes.toList.any (Tryz.prog.loopsFrom ·)) = true := by kernel_rfl
theorem k22 : (Rows.langKeptRow.plainKeys == Tryz.prog.plainKeys) = true := by kernel_rfl
theorem k23 : (Rows.langKeptRow.shortTexts.isNone) = true := by kernel_rfl
theorem k24 : (Tryz.prog.stopsHeard) = true := by kernel_rfl
theorem k25 : (Tryz.prog.mayEnter) = true := by kernel_rfl
theorem k26 : (Rows.langKeptRow.lifted == Tryz.prog.liftsFinal) = true := by kernel_rfl
theorem k27 : (Tryz.prog.make == some Rows.langKeptRow.make) = true := by kernel_rfl
theorem k28 : (Rows.langKeptRow.kinds == (if Rows.langKeptRow.domain.isEmpty then [] else Tryz.f10.params.toList.map fun t => match Tryz.prog.underlying t with | some (.int k) => some k | _ => none)) = true := by kernel_rfl
theorem k29 : (Rows.langKeptRow.pinned == Rows.langKeptRow.pinnedBy) = true := by kernel_rfl
theorem k30 : (Rows.langKeptRow.veiled == (Tryz.f10.params.toList ++ Rows.langKeptSpec.plain.varTypes Tryz.prog ++ Tryz.f10.resultTypes.toList).any (Tryz.prog.veiledRec ·)) = true := by kernel_rfl
theorem k31 : (Rows.langKeptRow.veiledFits Tryz.prog Tryz.f10.params.toList (Tryz.f10.params.toList ++ Rows.langKeptSpec.plain.varTypes Tryz.prog ++ Tryz.f10.resultTypes.toList)) = true := by kernel_rfl
set_option maxRecDepth 100000 in
theorem closed : joinedFacts Tryz.prog 10 Tryz.f10 Rows.langKeptSpec Rows.langKeptRow = true := by
  unfold joinedFacts
  simp only [Bool.and_eq_true]
  exact ⟨⟨⟨⟨⟨⟨⟨⟨⟨⟨⟨⟨⟨⟨⟨⟨⟨⟨⟨⟨⟨⟨⟨⟨⟨⟨⟨⟨⟨⟨⟨k0, k1⟩, k2⟩, k3⟩, k4⟩, k5⟩, k6⟩, k7⟩, k8⟩, k9⟩, k10⟩, k11⟩, k12⟩, k13⟩, k14⟩, k15⟩, k16⟩, k17⟩, k18⟩, k19⟩, k20⟩, k21⟩, k22⟩, k23⟩, k24⟩, k25⟩, k26⟩, k27⟩, k28⟩, k29⟩, k30⟩, k31⟩
theorem inst : Tryz.f10.isInstance Tryz.prog Rows.langKeptRow.origin Rows.langKeptRow.targs := of_decide_eq_true (by kernel_rfl)
theorem wrap : Tryz.f10.isWrapper Tryz.prog Rows.langKeptRow.wrapper Rows.langKeptRow.mainSum := by unfold Func.isWrapper; first | (rw [if_pos (by decide +kernel)]; kernel_rfl) | (rw [if_neg (by decide +kernel)]; exact ⟨rfl, rfl⟩)
theorem fnm : Tryz.prog.funcNamed Rows.langKeptRow.func = some 10 := by kernel_rfl
theorem over : Rows.langKeptRow.holds Tryz.pinned (OpenSpec.ofChange Rows.langKeptSpec) :=
  OpenClaim.holds_of_wide 10 Tryz.f10 rfl rfl rfl rfl rfl rfl rfl ⟨rfl, rfl, rfl, rfl, rfl⟩ rfl rfl rfl rfl rfl fnm Tryz.func10 closed inst wrap
    (fun os started H enc _ => lifted os started H enc)

theorem card_holds : Claim7.holds Tryz.pinned (.plain (OpenSpec.ofChange Rows.langKeptSpec)) Rows.langKeptCard :=
  Claim7.holds_tied_plain_at .later [] [.data, .data, .data, .sentinel, .sentinel] true (true, "5ae1d6b492568c5a14a569e8ad4f4fc43480271af0f6879772de1d9494726be6") true
    over (fun _ h => by cases h) (by kernel_rfl) (fun _ h => by cases h) langKept_row_tie rfl ⟨rfl, rfl⟩ (by kernel_rfl) rfl
    (fun f fn hf hfn => by
      obtain rfl : f = 10 := Option.some.inj ((show Tryz.prog.funcNamed "sleuth/sleuthlaw01.LangKept" = some 10 by kernel_rfl).symm.trans hf) |>.symm
      obtain rfl : fn = Tryz.f10 := (Option.some.inj (Tryz.func10.symm.trans hfn)).symm
      exact ⟨by kernel_rfl, fun j t ht => by
        rw [Tryz.params10] at ht
        have hm : t ∈ [25, 52] := by simpa using Array.mem_of_getElem? ht
        have hall : ([25, 52].all fun u => !Tryz.prog.wantsStandIn u) = true := by kernel_rfl
        exact (show Tryz.prog.wantsStandIn t = false by simpa using List.all_eq_true.1 hall t hm)⟩)
    (by kernel_rfl)

/-- The statement. -/
theorem proved : Rows.LangKeptCardSaid := card_holds
#print axioms proved
end Go.Proofs.YtchldahkcpbgcaaGreatDoor.langKept
