/- Texts of this seat, one behind the other: SizL. -/
import Derived.Test.YtchldahkcpbgcaaGreatDoorsk25
import Derived.Test.YtchldahkcpbgcaaGreatDoorsk8
import Derived.Lib.QuietBelow
import Derived.Deep.DeepCutAuto
namespace Go.Proofs.YtchldahkcpbgcaaGreatDoor
set_option linter.unusedVariables false

/- size of the program. -/
section
open Go.RowKit Go.Sort
set_option linter.unusedSimpArgs false
theorem szL_take {l : List Nd} {k : Nat} {x : Nd} (h : Hid (l[k]? = some x)) : szL (l.take (k + 1)) = szL (l.take k) + x.sz := by
 rw [take_at h, szL_app]
 simp [szL]
theorem szL_take_le (l : List Nd) (k : Nat) : szL (l.take k) ≤ szL l := by
 conv => rhs; rw [← List.take_append_drop k l, szL_app]
 omega
set_option maxRecDepth 20000 in
set_option maxHeartbeats 1600000 in
theorem size_any (n : Nat) : ∀ (S : Nat → Prop) (A : Option Addr) (c : Nat) (l : List Nd) (w : World), LN S n w A c l → cntL l ≤ 1000000000 →
    Calls Tryz.prog 196 #[.slice A l.length c] w (RetV w (.int .i64 (szL l : Nat))) := by
  induction n with
  | zero => intro S A c l w h; exact absurd h id
  | succ n ih =>
    intro S A c l w h hb
    have hl1 := h.len
    have hsz := szL_le l
    go_enter Tryz.func196, Tryz.ntmps196
    go_wp2
    go_loopw [3, 7] (fun a i wr => ∃ k : Nat, k ≤ l.length ∧ i = .int .i64 k ∧ a = .int .i64 (szL (l.take k) : Nat) ∧ Fr [] w wr) (fun _ i _ => l.length - (intOf i).toNat)
    case atStart => exact ⟨0, Nat.zero_le _, rfl, rfl, Fr.refl _ _⟩
    case round =>
      obtain ⟨k, hk, rfl, rfl, hf⟩ := hrel
      by_cases hlt : k < l.length
      · obtain ⟨b, off, x, ⟨As, cs, Ap, cp, Ab, cb, Ae, ce⟩, rfl, hx, hN, hH, _⟩ := h.at_ hlt
        have hcx := cntL_mem (List.mem_of_getElem? hx.out)
        have hce := Nd.cnt_eq x
        have HC : Hid (szL (l.take (k + 1)) = szL (l.take k) + ((if isStmtK x.kind then 1 else 0) + szL x.subs + szL x.body + szL x.els)) := by
          show _ = _
          rw [szL_take hx, Nd.sz_eq]
        have hb2 := szL_take_le l (k + 1)
        rw [HC.out] at hb2
        have CS : Hid (∀ W, Fr [] w W → Calls Tryz.prog 196 #[.slice As x.subs.length cs] W (RetV W (.int .i64 (szL x.subs : Nat)))) := fun W hW => ih S As cs x.subs W (hH.subs.fr0 hW) (by omega)
        have CB : Hid (∀ W, Fr [] w W → Calls Tryz.prog 196 #[.slice Ab x.body.length cb] W (RetV W (.int .i64 (szL x.body : Nat)))) := fun W hW => ih S Ab cb x.body W (hH.body.fr0 hW) (by omega)
        have CE : Hid (∀ W, Fr [] w W → Calls Tryz.prog 196 #[.slice Ae x.els.length ce] W (RetV W (.int .i64 (szL x.els : Nat)))) := fun W hW => ih S Ae ce x.els W (hH.els.fr0 hW) (by omega)
        clear ih hce hcx
        have c0 := hf.cell hN.c0 (by simp)
        have c3 := hf.cell hN.c3 (by simp)
        have c5 := hf.cell hN.c5 (by simp)
        have c6 := hf.cell hN.c6 (by simp)
        dsimp only at c3 c5 c6
        generalize szL (l.take k) = s0 at *
        generalize szL x.subs = a1 at *
        generalize szL x.body = a2 at *
        generalize szL x.els = a3 at *
        obtain ⟨V, rfl⟩ : ∃ V, V = wr := ⟨wr, rfl⟩
        obtain ⟨st, hst⟩ : ∃ st, isStmtK x.kind = st := ⟨_, rfl⟩
        rw [hst] at HC hb2
        have HI := Lib.hid (isStatement_any x.kind V)
        rw [hst] at HI
        clear hst
        go_wp2_with fail
        refine HI.out.mono ?_
        rintro e w3 ⟨rfl, nq, rfl⟩
        obtain ⟨V2, hV2⟩ : ∃ V2, V2 = V.drewN nq := ⟨_, rfl⟩
        have hfq : Fr [] V V2 := by rw [hV2]; exact (Fr.refl _ _).drewN _
        rw [← hV2]
        clear hV2
        have hf := hf.trans hfq
        have c3 := hfq.cell c3 (by simp)
        have c5 := hfq.cell c5 (by simp)
        have c6 := hfq.cell c6 (by simp)
        have cS := fun d os => Calls.regrown_of ((CS.out _ (hf.trans (Fr.of_below (below_regrown V2 d os)))).mono fun e w' h => ⟨h.1, h.2.below⟩)
        have cB := fun d os => Calls.regrown_of ((CB.out _ (hf.trans (Fr.of_below (below_regrown V2 d os)))).mono fun e w' h => ⟨h.1, h.2.below⟩)
        have cE := fun d os => Calls.regrown_of ((CE.out _ (hf.trans (Fr.of_below (below_regrown V2 d os)))).mono fun e w' h => ⟨h.1, h.2.below⟩)
        have d3 := fun d os => cell_regrown c3 d os
        have d5 := fun d os => cell_regrown c5 d os
        have d6 := fun d os => cell_regrown c6 d os
        clear CS CB CE hN hH HI
        cases st
        all_goals (
          simp only [Bool.false_eq_true, if_false, if_true] at HC hb2
          go_wp2_with fail
          refine wp_region_quiet_below (by kernel_rfl) (by kernel_rfl) ?_
          repeat (go_big_quiet_step (first | with_reducible exact cS _ _ | with_reducible exact cB _ _ | with_reducible exact cE _ _))
          refine wpQuiet_nil ?_
          intro _ hw
          obtain ⟨⟨dq, osq⟩, hw2⟩ := hw
          subst hw2
          have hQ : Fr [] V2 (grow (redrawn V2 dq) osq) := Fr.of_below (below_regrown V2 dq osq)
          obtain ⟨VQ, hVQ⟩ : ∃ X, X = grow (redrawn V2 dq) osq := ⟨_, rfl⟩
          rw [← hVQ] at hQ ⊢
          clear hVQ dq osq
          go_wp2
          go_roundw
          case rel => exact ⟨k + 1, by omega, by go_num, by rw [HC.out]; go_num, hf.trans hQ⟩
          case measure => simp [intOf]; omega)
      · rw [List.take_of_length_le (by omega)]
        go_wp2
        go_ret
        exact ⟨rfl, hf⟩
end

end Go.Proofs.YtchldahkcpbgcaaGreatDoor
