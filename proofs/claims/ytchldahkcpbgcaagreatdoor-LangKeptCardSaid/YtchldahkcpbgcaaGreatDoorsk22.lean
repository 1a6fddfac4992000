/- Texts of this seat, one behind the other: ShpN, ShpI, WgtM, Wgt. -/
import Derived.Test.YtchldahkcpbgcaaGreatDoorsk21
import Derived.Deep.DeepCutAuto
import Derived.Lib.QuietBelow
import Derived.Test.YtchldahkcpbgcaaGreatDoorsk4
import Derived.LoopTactic
namespace Go.Proofs.YtchldahkcpbgcaaGreatDoor
set_option linter.unusedVariables false

/- The checker of shapes: a node. -/
section
open Go.RowKit Go.Sort
set_option linter.unusedSimpArgs false
theorem lookup_mem {κ ν : Type} [DecidableEq κ] {k : κ} {v : ν} : ∀ {m : List (κ × ν)}, m.lookup k = some v → (k, v) ∈ m
  | [], h => by cases h
  | (a, c) :: m, h => by
    by_cases hk : k = a
    · subst hk
      simp [List.lookup] at h
      subst h
      simp
    · rw [List.lookup, beq_eq_false_iff_ne.2 hk] at h
      exact List.mem_cons_of_mem _ (lookup_mem h)
section
variable {x : Nd} {r : Rul} {inFn : Bool}
theorem okB_fits (h : ruleOf x.kind = some r) (h1 : fitsB r.text x.text = false) : x.okB inFn = false := by rw [Nd.okB_some h]; simp [ownB, h1]
theorem okB_least (h : ruleOf x.kind = some r) (h1 : (x.subs.length : Int) < r.least) : x.okB inFn = false := by
 rw [Nd.okB_some h]
 have : ¬ r.least ≤ (x.subs.length : Int) := by omega
 simp [ownB, this]
theorem okB_most (h : ruleOf x.kind = some r) (h1 : r.most < (x.subs.length : Int)) : x.okB inFn = false := by
 rw [Nd.okB_some h]
 have : ¬ (x.subs.length : Int) ≤ r.most := by omega
 simp [ownB, this]
theorem okB_neg (h : ruleOf x.kind = some r) (h1 : x.num < 0) : x.okB inFn = false := by
 rw [Nd.okB_some h]
 have : ¬ 0 ≤ x.num := by omega
 simp [ownB, this]
theorem okB_num (h : ruleOf x.kind = some r) (h1 : ¬ x.num = 0) (h2 : ¬ x.kind = 1) : x.okB inFn = false := by rw [Nd.okB_some h]; simp [ownB, h1, h2]
theorem okB_pars (h : ruleOf x.kind = some r) (h1 : r.fn = false) (h2 : 0 < x.params.length) : x.okB inFn = false := by
 rw [Nd.okB_some h]
 have : ¬ x.params.length = 0 := by omega
 simp [ownB, h1]
 intros
 simp_all
theorem okB_body (h : ruleOf x.kind = some r) (h1 : r.body = false) (h2 : 0 < x.body.length) : x.okB inFn = false := by
 rw [Nd.okB_some h]
 simp [ownB, h1]
 intros
 simp_all
theorem okB_els (h : ruleOf x.kind = some r) (h1 : r.other = false) (h2 : 0 < x.els.length) : x.okB inFn = false := by
 rw [Nd.okB_some h]
 simp [ownB, h1]
 intros
 simp_all
theorem okB_in (h : ruleOf x.kind = some r) (h1 : r.fn = true) (h2 : inFn = true) : x.okB inFn = false := by rw [Nd.okB_some h]; simp [ownB, h1, h2]
theorem okB_par (h : ruleOf x.kind = some r) (h1 : r.fn = true) (h2 : paramsB x.params = false) : x.okB inFn = false := by rw [Nd.okB_some h]; simp [ownB, h1, h2]
theorem okB_own (h : ruleOf x.kind = some r) (h1 : fitsB r.text x.text = true) (h2 : ¬ (x.subs.length : Int) < r.least) (h3 : ¬ r.most < (x.subs.length : Int)) (h4 : ¬ x.num < 0) (h5 : x.num = 0 ∨ x.kind = 1) (h6 : r.fn = true ∨ ¬ 0 < x.params.length)
  (h7 : r.body = true ∨ ¬ 0 < x.body.length) (h8 : r.other = true ∨ ¬ 0 < x.els.length) (h9 : r.fn = false ∨ inFn = false ∧ paramsB x.params = true) :
  x.okB inFn = (lsB true inFn x.subs && (lsB false (inFn || r.fn) x.body && lsB false inFn x.els)) := by
 rw [Nd.okB_some h]
 have a2 : r.least ≤ (x.subs.length : Int) := by omega
 have a3 : (x.subs.length : Int) ≤ r.most := by omega
 have a4 : 0 ≤ x.num := by omega
 have a6 : (r.fn || decide (x.params.length = 0)) = true := by
  rcases h6 with h6 | h6
  ·simp [h6]
  ·have : x.params.length = 0 := by omega
   rw [decide_eq_true this, Bool.or_true]
 have a7 : (r.body || decide (x.body.length = 0)) = true := by
  rcases h7 with h7 | h7
  ·simp [h7]
  ·have : x.body.length = 0 := by omega
   rw [decide_eq_true this, Bool.or_true]
 have a8 : (r.other || decide (x.els.length = 0)) = true := by
  rcases h8 with h8 | h8
  ·simp [h8]
  ·have : x.els.length = 0 := by omega
   rw [decide_eq_true this, Bool.or_true]
 have a5 : (decide (x.num = 0) || decide (x.kind = 1)) = true := by rcases h5 with h5 | h5 <;> simp [h5]
 have a9 : (!r.fn || (!inFn && paramsB x.params)) = true := by
  rcases h9 with h9 | ⟨h9, h10⟩
  ·simp [h9]
  ·simp [h9, h10]
 unfold ownB
 rw [h1, a5, a6, a7, a8, a9, decide_eq_true a2, decide_eq_true a3, decide_eq_true a4]
 rfl
end
def ListsOk (ex : Bool) (n : Nat) : Prop := ∀ (S : Nat → Prop) (mb : Nat) (A : Option Addr) (c : Nat) (l : List Nd) (inFn : Bool) (w : World), LN S n w A c l → MapAt w mb encK encRul rulL → TxL l →
 Calls Tryz.prog (if ex then 205 else 116) #[.agg #[.map (some mb)], .slice A l.length c, .bool inFn] w (RetV w (.bool (lsB ex inFn l)))
set_option maxRecDepth 20000 in
set_option maxHeartbeats 6400000 in
theorem node_step (n : Nat) (hE : ListsOk true n) (hS : ListsOk false n) (S : Nat → Prop) (mb b o : Nat) (x : Nd) (hd : HdN) (inFn : Bool) (w : World) (hN : NdAt w b o x hd) (hH : NdH S n w hd x) (hm : MapAt w mb encK encRul rulL) (htx : x.tx) :
  Calls Tryz.prog 172 #[.agg #[.map (some mb)], .pointer (some ⟨b, o, none⟩), .bool inFn] w (RetV w (.bool (x.okB inFn))) := by
 obtain ⟨V, hV⟩ : ∃ V, V = w.alloc (.cells #[.map (some mb)] 152) := ⟨_, rfl⟩
 have hf0 : Fr [] w V := by rw [hV]; exact frx
 have hC0 : Blk V w.heap.size 152 #[.map (some mb)] := by rw [hV]; exact Blk.new _ _ _ _ rfl
 have hmV := hm.fr0 hf0
 have hNV := hN.fr0 hf0
 have q0 : V.cell? ⟨w.heap.size, 0, none⟩ = some (.map (some mb)) := hC0.cell 0 rfl
 have c0 := hNV.c0
 have zr : ∀ W : World, (zeroValue 224).run Tryz.prog W = .ok (encRul ⟨0, 0, 0, false, false, false⟩) W := fun W => by rfl
 obtain ⟨r, ok, hro⟩ : ∃ (r : Rul) (ok : Bool), (ruleOf x.kind).getD ⟨0, 0, 0, false, false, false⟩ = r ∧ (ruleOf x.kind).isSome = ok := ⟨_, _, rfl, rfl⟩
 have hlook := fun W (h : MapAt W mb encK encRul rulL) => run_lookup_at keyK8 Tryz.underlying149 (⟨0, 0, 0, false, false, false⟩ : Rul) (zr W) h x.kind
 have hl1 := hlook V.drew (hmV.fr0 ((Fr.refl _ _).drew))
 have hl2 := hlook (V.alloc (.cells #[.int .i64 0, .int .i64 0, .int .i64 0, .bool false, .bool false, .bool false] 224)).drew (hmV.fr0 (((Fr.refl _ _).alloc _).drew))
 rw [show rulL.lookup x.kind = ruleOf x.kind from rfl, hro.1, hro.2] at hl1 hl2
 have hfZ : Fr [] V (V.alloc (.cells #[.int .i64 0, .int .i64 0, .int .i64 0, .bool false, .bool false, .bool false] 224)) := (Fr.refl _ _).alloc _
 have q0z := hfZ.cell q0 (by simp)
 have c0z := hfZ.cell c0 (by simp)
 clear hlook hfZ zr
 have HV := Lib.hid hV.symm
 clear hV
 obtain ⟨VR, hVR⟩ : ∃ VR, VR = V.alloc (.cells #[.int .i64 r.text, .int .i64 r.least, .int .i64 r.most, .bool r.body, .bool r.other, .bool r.fn] 224) := ⟨_, rfl⟩
 have hfR : Fr [] V VR := by rw [hVR]; exact frx
 have hBR : Blk VR V.heap.size 224 #[.int .i64 r.text, .int .i64 r.least, .int .i64 r.most, .bool r.body, .bool r.other, .bool r.fn] := by rw [hVR]; exact Blk.new _ _ _ _ rfl
 have HR := Lib.hid hVR.symm
 clear hVR
 go_enter Tryz.func172, Tryz.ntmps172
 go_upto_region 1 with fail
 rw [HV.out]
 go_cut [7, 8] from 9 (fun p k wx => p = .pointer (some ⟨V.heap.size, 0, none⟩) ∧ k = .bool ok ∧ wx = VR.drew)
 case first =>
  go_region
  all_goals (go_wp2_with fail; go_meet; exact ⟨rfl, rfl, by rw [HR.out]⟩)
 case rest =>
 obtain ⟨rfl, rfl, rfl⟩ := hcut
 clear q0 c0 q0z c0z hl1 hl2
 have hF := hf0.trans hfR
 have hN := hN.fr0 hF
 have hC := hC0.fr hfR (by simp)
 have hm := hm.fr0 hF
 have k0 : VR.cell? ⟨V.heap.size, 0, none⟩ = some (.int .i64 r.text) := hBR.cell 0 rfl
 have k1 : VR.cell? ⟨V.heap.size, 1, none⟩ = some (.int .i64 r.least) := hBR.cell 1 rfl
 have k2 : VR.cell? ⟨V.heap.size, 2, none⟩ = some (.int .i64 r.most) := hBR.cell 2 rfl
 have k3 : VR.cell? ⟨V.heap.size, 3, none⟩ = some (.bool r.body) := hBR.cell 3 rfl
 have k4 : VR.cell? ⟨V.heap.size, 4, none⟩ = some (.bool r.other) := hBR.cell 4 rfl
 have k5 : VR.cell? ⟨V.heap.size, 5, none⟩ = some (.bool r.fn) := hBR.cell 5 rfl
 have m0 : VR.cell? ⟨w.heap.size, 0, none⟩ = some (.map (some mb)) := hC.cell 0 rfl
 obtain ⟨c0, c1, c2, c3, c4, c5, c6⟩ := hN
 obtain ⟨bf, hbf⟩ : ∃ b, fitsB r.text x.text = b := ⟨_, rfl⟩
 have HBF := Lib.hid hbf
 have HFIT : Hid (∀ W, Calls Tryz.prog 204 #[.int .i64 r.text, .string x.text] W (RetV W (.bool bf))) := Lib.hid (fun W => hbf ▸ fits_any r.text x.text W ((Nd.tx_iff x).1 htx).1.1)
 clear hbf
 go_upto_region 2 with fail
 go_cut [19] from 20 (fun s wx => s = .bool (!(ok && bf)) ∧ Fr [] VR wx)
 case first =>
  cases ok
  ·go_quiet (fail)
   go_wp2_with fail
   go_meet
   exact ⟨rfl, frx⟩
  ·go_region_held3 (fun w' => w'.cell? ⟨V.heap.size, 0, none⟩ = some (.int .i64 r.text) ∧ w'.cell? ⟨b, o + 1, none⟩ = some (.string x.text))
    (first
     | (go_keep; done)
     | with_reducible exact ⟨hFb.cell k0 (by simp), hFb.cell c1 (by simp)⟩)
    (first
     | (go_at_call 204; refine (HFIT.out _).mono ?_; rintro e wa ⟨rfl, hfa⟩; have hFb : Fr [] VR wa := (Fr.trans frx hfa)))
   go_wp2_with fail
   go_meet
   exact ⟨rfl, hFb⟩
 case rest =>
 obtain ⟨rfl, hfc⟩ := hcut
 cases ok
 ·have HO := Lib.hid (Nd.okB_none (x := x) (inFn := inFn) (by simpa using hro.2))
  go_wp2
  go_ret
  exact ⟨ret_bool HO.out.symm, hF.trans hfc⟩
 have hru : ruleOf x.kind = some r := by
  cases h : ruleOf x.kind with
  | none => rw [h] at hro; simp at hro
  | some q => rw [h] at hro; have := hro.1; simp at this; rw [this]
 have HRU := Lib.hid hru
 clear hru hro
 cases bf
 ·have HO := Lib.hid (okB_fits (inFn := inFn) HRU.out HBF.out)
  go_wp2
  go_ret
  exact ⟨ret_bool HO.out.symm, hF.trans hfc⟩
 obtain ⟨V2, rfl⟩ : ∃ V2, V2 = wc := ⟨wc, rfl⟩
 have hF := hF.trans hfc
 have hm := hm.fr0 hfc
 have k1 := hfc.cell k1 (by simp)
 have k2 := hfc.cell k2 (by simp)
 have k3 := hfc.cell k3 (by simp)
 have k4 := hfc.cell k4 (by simp)
 have k5 := hfc.cell k5 (by simp)
 have m0 := hfc.cell m0 (by simp)
 have c0 := hfc.cell c0 (by simp)
 have c2 := hfc.cell c2 (by simp)
 have c3 := hfc.cell c3 (by simp)
 have c4 := hfc.cell c4 (by simp)
 have c5 := hfc.cell c5 (by simp)
 have c6 := hfc.cell c6 (by simp)
 clear hfc
 obtain ⟨d3, hd3⟩ : ∃ d, decide ((x.subs.length : Int) < r.least) = d := ⟨_, rfl⟩
 have Hd3 := Lib.hid hd3
 clear hd3
 go_upto_region 3 with fail
 go_cut [19] from 20 (fun s wx => s = .bool d3 ∧ Fr [] V2 wx)
 case first =>
  go_quiet (fail)
  go_wp2_with fail
  go_meet
  exact ⟨congrArg Value.bool Hd3.out, frx⟩
 case rest =>
 obtain ⟨rfl, hfc⟩ := hcut
 cases d3
 case true =>
  have HO := Lib.hid (okB_least (inFn := inFn) HRU.out (of_decide_eq_true Hd3.out))
  go_wp2
  go_ret
  exact ⟨ret_bool HO.out.symm, hF.trans hfc⟩
 have Nd3 := Lib.hid (of_decide_eq_false Hd3.out)
 have hF := hF.trans hfc
 have hm := hm.fr0 hfc
 have k1 := hfc.cell k1 (by simp)
 have k2 := hfc.cell k2 (by simp)
 have k3 := hfc.cell k3 (by simp)
 have k4 := hfc.cell k4 (by simp)
 have k5 := hfc.cell k5 (by simp)
 have m0 := hfc.cell m0 (by simp)
 have c0 := hfc.cell c0 (by simp)
 have c2 := hfc.cell c2 (by simp)
 have c3 := hfc.cell c3 (by simp)
 have c4 := hfc.cell c4 (by simp)
 have c5 := hfc.cell c5 (by simp)
 have c6 := hfc.cell c6 (by simp)
 clear hfc
 obtain ⟨V2, rfl⟩ : ∃ V2, V2 = wc := ⟨wc, rfl⟩
 obtain ⟨d4, hd4⟩ : ∃ d, decide (r.most < (x.subs.length : Int)) = d := ⟨_, rfl⟩
 have Hd4 := Lib.hid hd4
 clear hd4
 go_upto_region 4 with fail
 go_cut [19] from 20 (fun s wx => s = .bool d4 ∧ Fr [] V2 wx)
 case first =>
  go_quiet (fail)
  go_wp2_with fail
  go_meet
  exact ⟨congrArg Value.bool Hd4.out, frx⟩
 case rest =>
 obtain ⟨rfl, hfc⟩ := hcut
 cases d4
 case true =>
  have HO := Lib.hid (okB_most (inFn := inFn) HRU.out (of_decide_eq_true Hd4.out))
  go_wp2
  go_ret
  exact ⟨ret_bool HO.out.symm, hF.trans hfc⟩
 have Nd4 := Lib.hid (of_decide_eq_false Hd4.out)
 have hF := hF.trans hfc
 have hm := hm.fr0 hfc
 have k1 := hfc.cell k1 (by simp)
 have k2 := hfc.cell k2 (by simp)
 have k3 := hfc.cell k3 (by simp)
 have k4 := hfc.cell k4 (by simp)
 have k5 := hfc.cell k5 (by simp)
 have m0 := hfc.cell m0 (by simp)
 have c0 := hfc.cell c0 (by simp)
 have c2 := hfc.cell c2 (by simp)
 have c3 := hfc.cell c3 (by simp)
 have c4 := hfc.cell c4 (by simp)
 have c5 := hfc.cell c5 (by simp)
 have c6 := hfc.cell c6 (by simp)
 clear hfc
 obtain ⟨V2, rfl⟩ : ∃ V2, V2 = wc := ⟨wc, rfl⟩
 obtain ⟨d6, hd6⟩ : ∃ d, decide (x.num < 0 ∨ (¬ x.num = 0 ∧ ¬ x.kind = 1)) = d := ⟨_, rfl⟩
 have Hd6 := Lib.hid hd6
 clear hd6
 go_upto_region 6 with fail
 go_cut [48] from 49 (fun s wx => s = .bool d6 ∧ Fr [] V2 wx)
 case first =>
  by_cases n1 : x.num < 0
  ·have e1 : decide (x.num < 0) = true := by simpa using n1
   go_wp2_with fail
   go_meet
   exact ⟨congrArg Value.bool (by rw [← Hd6.out]; symm; first | exact decide_eq_true (by omega) | exact decide_eq_false (by omega)), frx⟩
  have e1 : decide (x.num < 0) = false := by simpa using n1
  by_cases n2 : x.num = 0
  ·have e2 : (x.num != 0) = false := by simpa using n2
   go_wp2_with fail
   go_meet
   exact ⟨congrArg Value.bool (by rw [← Hd6.out]; symm; first | exact decide_eq_true (by omega) | exact decide_eq_false (by omega)), frx⟩
  have e2 : (x.num != 0) = true := by simpa using n2
  by_cases n3 : x.kind = 1
  ·have e3 : (x.kind != 1) = false := by simpa using n3
   go_wp2_with fail
   go_meet
   exact ⟨congrArg Value.bool (by rw [← Hd6.out]; symm; first | exact decide_eq_true (by omega) | exact decide_eq_false (by omega)), frx⟩
  have e3 : (x.kind != 1) = true := by simpa using n3
  go_wp2_with fail
  go_meet
  exact ⟨congrArg Value.bool (by rw [← Hd6.out]; symm; first | exact decide_eq_true (by omega) | exact decide_eq_false (by omega)), frx⟩
 case rest =>
 obtain ⟨rfl, hfc⟩ := hcut
 cases d6
 case true =>
  have HO := Lib.hid ((of_decide_eq_true Hd6.out).elim (fun h => okB_neg (inFn := inFn) HRU.out h) (fun h => okB_num (inFn := inFn) HRU.out h.1 h.2))
  go_wp2
  go_ret
  exact ⟨ret_bool HO.out.symm, hF.trans hfc⟩
 have Nd6 := Lib.hid (of_decide_eq_false Hd6.out)
 have hF := hF.trans hfc
 have hm := hm.fr0 hfc
 have k1 := hfc.cell k1 (by simp)
 have k2 := hfc.cell k2 (by simp)
 have k3 := hfc.cell k3 (by simp)
 have k4 := hfc.cell k4 (by simp)
 have k5 := hfc.cell k5 (by simp)
 have m0 := hfc.cell m0 (by simp)
 have c0 := hfc.cell c0 (by simp)
 have c2 := hfc.cell c2 (by simp)
 have c3 := hfc.cell c3 (by simp)
 have c4 := hfc.cell c4 (by simp)
 have c5 := hfc.cell c5 (by simp)
 have c6 := hfc.cell c6 (by simp)
 clear hfc
 obtain ⟨V2, rfl⟩ : ∃ V2, V2 = wc := ⟨wc, rfl⟩
 obtain ⟨d8, hd8⟩ : ∃ d, decide (r.fn = false ∧ 0 < x.params.length) = d := ⟨_, rfl⟩
 have Hd8 := Lib.hid hd8
 clear hd8
 go_upto_region 8 with fail
 go_cut [68] from 69 (fun s wx => s = .bool d8 ∧ Fr [] V2 wx)
 case first =>
  obtain ⟨q, hq⟩ : ∃ q, r.fn = q := ⟨_, rfl⟩
  rw [hq] at k5
  have HQ := Lib.hid hq
  clear hq
  cases q
  ·by_cases n1 : 0 < x.params.length
   ·have e1 : decide (0 < (x.params.length : Int)) = true := by simpa using n1
    go_wp2_with fail
    go_meet
    exact ⟨congrArg Value.bool (by rw [← Hd8.out]; exact (decide_eq_true ⟨HQ.out, n1⟩).symm), frx⟩
   ·have e1 : decide (0 < (x.params.length : Int)) = false := by simpa using n1
    go_wp2_with fail
    go_meet
    exact ⟨congrArg Value.bool (by rw [← Hd8.out]; exact (decide_eq_false (fun h => n1 h.2)).symm), frx⟩
  ·go_wp2_with fail
   go_meet
   exact ⟨congrArg Value.bool (by rw [← Hd8.out]; exact (decide_eq_false (fun h => by rw [HQ.out] at h; cases h.1)).symm), frx⟩
 case rest =>
 obtain ⟨rfl, hfc⟩ := hcut
 cases d8
 case true =>
  have HO := Lib.hid (okB_pars (inFn := inFn) HRU.out (of_decide_eq_true Hd8.out).1 (of_decide_eq_true Hd8.out).2)
  go_wp2
  go_ret
  exact ⟨ret_bool HO.out.symm, hF.trans hfc⟩
 have Nd8 := Lib.hid (of_decide_eq_false Hd8.out)
 have hF := hF.trans hfc
 have hm := hm.fr0 hfc
 have k1 := hfc.cell k1 (by simp)
 have k2 := hfc.cell k2 (by simp)
 have k3 := hfc.cell k3 (by simp)
 have k4 := hfc.cell k4 (by simp)
 have k5 := hfc.cell k5 (by simp)
 have m0 := hfc.cell m0 (by simp)
 have c0 := hfc.cell c0 (by simp)
 have c2 := hfc.cell c2 (by simp)
 have c3 := hfc.cell c3 (by simp)
 have c4 := hfc.cell c4 (by simp)
 have c5 := hfc.cell c5 (by simp)
 have c6 := hfc.cell c6 (by simp)
 clear hfc
 obtain ⟨V2, rfl⟩ : ∃ V2, V2 = wc := ⟨wc, rfl⟩
 obtain ⟨d9, hd9⟩ : ∃ d, decide (r.body = false ∧ 0 < x.body.length) = d := ⟨_, rfl⟩
 have Hd9 := Lib.hid hd9
 clear hd9
 go_upto_region 9 with fail
 go_cut [68] from 69 (fun s wx => s = .bool d9 ∧ Fr [] V2 wx)
 case first =>
  obtain ⟨q, hq⟩ : ∃ q, r.body = q := ⟨_, rfl⟩
  rw [hq] at k3
  have HQ := Lib.hid hq
  clear hq
  cases q
  ·by_cases n1 : 0 < x.body.length
   ·have e1 : decide (0 < (x.body.length : Int)) = true := by simpa using n1
    go_wp2_with fail
    go_meet
    exact ⟨congrArg Value.bool (by rw [← Hd9.out]; exact (decide_eq_true ⟨HQ.out, n1⟩).symm), frx⟩
   ·have e1 : decide (0 < (x.body.length : Int)) = false := by simpa using n1
    go_wp2_with fail
    go_meet
    exact ⟨congrArg Value.bool (by rw [← Hd9.out]; exact (decide_eq_false (fun h => n1 h.2)).symm), frx⟩
  ·go_wp2_with fail
   go_meet
   exact ⟨congrArg Value.bool (by rw [← Hd9.out]; exact (decide_eq_false (fun h => by rw [HQ.out] at h; cases h.1)).symm), frx⟩
 case rest =>
 obtain ⟨rfl, hfc⟩ := hcut
 cases d9
 case true =>
  have HO := Lib.hid (okB_body (inFn := inFn) HRU.out (of_decide_eq_true Hd9.out).1 (of_decide_eq_true Hd9.out).2)
  go_wp2
  go_ret
  exact ⟨ret_bool HO.out.symm, hF.trans hfc⟩
 have Nd9 := Lib.hid (of_decide_eq_false Hd9.out)
 have hF := hF.trans hfc
 have hm := hm.fr0 hfc
 have k1 := hfc.cell k1 (by simp)
 have k2 := hfc.cell k2 (by simp)
 have k3 := hfc.cell k3 (by simp)
 have k4 := hfc.cell k4 (by simp)
 have k5 := hfc.cell k5 (by simp)
 have m0 := hfc.cell m0 (by simp)
 have c0 := hfc.cell c0 (by simp)
 have c2 := hfc.cell c2 (by simp)
 have c3 := hfc.cell c3 (by simp)
 have c4 := hfc.cell c4 (by simp)
 have c5 := hfc.cell c5 (by simp)
 have c6 := hfc.cell c6 (by simp)
 clear hfc
 obtain ⟨V2, rfl⟩ : ∃ V2, V2 = wc := ⟨wc, rfl⟩
 obtain ⟨d10, hd10⟩ : ∃ d, decide (r.other = false ∧ 0 < x.els.length) = d := ⟨_, rfl⟩
 have Hd10 := Lib.hid hd10
 clear hd10
 go_upto_region 10 with fail
 go_cut [68] from 69 (fun s wx => s = .bool d10 ∧ Fr [] V2 wx)
 case first =>
  obtain ⟨q, hq⟩ : ∃ q, r.other = q := ⟨_, rfl⟩
  rw [hq] at k4
  have HQ := Lib.hid hq
  clear hq
  cases q
  ·by_cases n1 : 0 < x.els.length
   ·have e1 : decide (0 < (x.els.length : Int)) = true := by simpa using n1
    go_wp2_with fail
    go_meet
    exact ⟨congrArg Value.bool (by rw [← Hd10.out]; exact (decide_eq_true ⟨HQ.out, n1⟩).symm), frx⟩
   ·have e1 : decide (0 < (x.els.length : Int)) = false := by simpa using n1
    go_wp2_with fail
    go_meet
    exact ⟨congrArg Value.bool (by rw [← Hd10.out]; exact (decide_eq_false (fun h => n1 h.2)).symm), frx⟩
  ·go_wp2_with fail
   go_meet
   exact ⟨congrArg Value.bool (by rw [← Hd10.out]; exact (decide_eq_false (fun h => by rw [HQ.out] at h; cases h.1)).symm), frx⟩
 case rest =>
 obtain ⟨rfl, hfc⟩ := hcut
 cases d10
 case true =>
  have HO := Lib.hid (okB_els (inFn := inFn) HRU.out (of_decide_eq_true Hd10.out).1 (of_decide_eq_true Hd10.out).2)
  go_wp2
  go_ret
  exact ⟨ret_bool HO.out.symm, hF.trans hfc⟩
 have Nd10 := Lib.hid (of_decide_eq_false Hd10.out)
 have hF := hF.trans hfc
 have hm := hm.fr0 hfc
 have k1 := hfc.cell k1 (by simp)
 have k2 := hfc.cell k2 (by simp)
 have k3 := hfc.cell k3 (by simp)
 have k4 := hfc.cell k4 (by simp)
 have k5 := hfc.cell k5 (by simp)
 have m0 := hfc.cell m0 (by simp)
 have c0 := hfc.cell c0 (by simp)
 have c2 := hfc.cell c2 (by simp)
 have c3 := hfc.cell c3 (by simp)
 have c4 := hfc.cell c4 (by simp)
 have c5 := hfc.cell c5 (by simp)
 have c6 := hfc.cell c6 (by simp)
 clear hfc
 obtain ⟨V2, rfl⟩ : ∃ V2, V2 = wc := ⟨wc, rfl⟩
 obtain ⟨d12, hd12⟩ : ∃ d, decide (r.fn = true ∧ (inFn = true ∨ paramsB x.params = false)) = d := ⟨_, rfl⟩
 have Hd12 := Lib.hid hd12
 clear hd12
 go_upto_region 12 with fail
 go_cut [102] from 103 (fun s wx => s = .bool d12 ∧ Fr [] V2 wx)
 case first =>
  obtain ⟨q, hq⟩ : ∃ q, r.fn = q := ⟨_, rfl⟩
  rw [hq] at k5
  have HQ := Lib.hid hq
  clear hq
  cases q
  ·go_wp2_with fail
   go_meet
   exact ⟨congrArg Value.bool (by rw [← Hd12.out]; exact (decide_eq_false (fun h => by rw [HQ.out] at h; cases h.1)).symm), frx⟩
  cases inFn
  ·obtain ⟨pp, hpp⟩ : ∃ p, paramsB x.params = p := ⟨_, rfl⟩
   have HPP := Lib.hid hpp
   have CP : Hid (∀ W, Fr [] V2 W → Calls Tryz.prog 115 #[.slice hd.Ap x.params.length hd.cp] W (RetV W (.bool pp))) := Lib.hid (fun W h => hpp ▸ params_any hd.Ap hd.cp x.params W ((hH.params.fr0 (hF.trans h)).1) ((Nd.tx_iff x).1 htx).1.2)
   clear hpp
   go_wp2_with fail
   refine (CP.out _ frx).mono ?_
   rintro e wa ⟨rfl, hfa⟩
   have hfb : Fr [] V2 wa := (Fr.trans frx hfa)
   cases pp
   ·go_wp2_with fail
    go_meet
    exact ⟨congrArg Value.bool (by rw [← Hd12.out]; exact (decide_eq_true ⟨HQ.out, .inr HPP.out⟩).symm), hfb⟩
   ·go_wp2_with fail
    go_meet
    exact ⟨congrArg Value.bool (by rw [← Hd12.out]; exact (decide_eq_false (fun h => h.2.elim (fun h => by cases h) (fun h => by rw [HPP.out] at h; cases h))).symm), hfb⟩
  ·go_wp2_with fail
   go_meet
   exact ⟨congrArg Value.bool (by rw [← Hd12.out]; exact (decide_eq_true ⟨HQ.out, .inl (by simp)⟩).symm), frx⟩
 case rest =>
 obtain ⟨rfl, hfc⟩ := hcut
 cases d12
 case true =>
  have HO := Lib.hid ((of_decide_eq_true Hd12.out).2.elim (fun h => okB_in (inFn := inFn) HRU.out (of_decide_eq_true Hd12.out).1 h) (fun h => okB_par (inFn := inFn) HRU.out (of_decide_eq_true Hd12.out).1 h))
  go_wp2
  go_ret
  exact ⟨ret_bool HO.out.symm, hF.trans hfc⟩
 have Nd12 := Lib.hid (of_decide_eq_false Hd12.out)
 have hF := hF.trans hfc
 have hm := hm.fr0 hfc
 have k1 := hfc.cell k1 (by simp)
 have k2 := hfc.cell k2 (by simp)
 have k3 := hfc.cell k3 (by simp)
 have k4 := hfc.cell k4 (by simp)
 have k5 := hfc.cell k5 (by simp)
 have m0 := hfc.cell m0 (by simp)
 have c0 := hfc.cell c0 (by simp)
 have c2 := hfc.cell c2 (by simp)
 have c3 := hfc.cell c3 (by simp)
 have c4 := hfc.cell c4 (by simp)
 have c5 := hfc.cell c5 (by simp)
 have c6 := hfc.cell c6 (by simp)
 clear hfc
 obtain ⟨V2, rfl⟩ : ∃ V2, V2 = wc := ⟨wc, rfl⟩
 have HOWN : Hid (x.okB inFn = (lsB true inFn x.subs && (lsB false (inFn || r.fn) x.body && lsB false inFn x.els))) := Lib.hid (by
  have n6 := Nd6.out
  have n8 := Nd8.out
  have n9 := Nd9.out
  have n10 := Nd10.out
  have n12 := Nd12.out
  refine okB_own HRU.out HBF.out Nd3.out Nd4.out (fun h => n6 (.inl h)) ?_ ?_ ?_ ?_ ?_
  ·rcases Classical.em (x.num = 0) with h | h
   ·exact .inl h
   ·exact .inr (Classical.byContradiction fun h1 => n6 (.inr ⟨h, h1⟩))
  ·cases h : r.fn
   ·exact .inr fun h1 => n8 ⟨h, h1⟩
   ·exact .inl rfl
  ·cases h : r.body
   ·exact .inr fun h1 => n9 ⟨h, h1⟩
   ·exact .inl rfl
  ·cases h : r.other
   ·exact .inr fun h1 => n10 ⟨h, h1⟩
   ·exact .inl rfl
  ·cases h : r.fn
   ·exact .inl rfl
   ·refine .inr ⟨?_, ?_⟩
    ·cases h2 : inFn
     ·rfl
     ·exact absurd ⟨h, .inl h2⟩ n12
    ·cases h2 : paramsB x.params
     ·exact absurd ⟨h, .inr h2⟩ n12
     ·rfl)
 go_upto_region 14 with fail
 obtain ⟨e1, he1⟩ : ∃ e, lsB true inFn x.subs = e := ⟨_, rfl⟩
 obtain ⟨e2, he2⟩ : ∃ e, lsB false (inFn || r.fn) x.body = e := ⟨_, rfl⟩
 obtain ⟨e3, he3⟩ : ∃ e, lsB false inFn x.els = e := ⟨_, rfl⟩
 have HX : Hid (x.okB inFn = (e1 && (e2 && e3))) := by
  show _ = _
  rw [HOWN.out, he1, he2, he3]
 have CE : Hid (∀ W, Fr [] V2 W → Calls Tryz.prog 205 #[.agg #[.map (some mb)], .slice hd.As x.subs.length hd.cs, .bool inFn] W (RetV W (.bool e1))) := Lib.hid (fun W h => he1 ▸ hE S mb hd.As hd.cs x.subs inFn W (hH.subs.fr0 (hF.trans h)) (hm.fr0 h) ((Nd.tx_iff x).1 htx).2.1)
 have CB : Hid (∀ W, Fr [] V2 W → Calls Tryz.prog 116 #[.agg #[.map (some mb)], .slice hd.Ab x.body.length hd.cb, .bool (inFn || r.fn)] W (RetV W (.bool e2))) := Lib.hid (fun W h => he2 ▸ hS S mb hd.Ab hd.cb x.body (inFn || r.fn) W (hH.body.fr0 (hF.trans h)) (hm.fr0 h) ((Nd.tx_iff x).1 htx).2.2.1)
 have CX : Hid (∀ W, Fr [] V2 W → Calls Tryz.prog 116 #[.agg #[.map (some mb)], .slice hd.Ae x.els.length hd.ce, .bool inFn] W (RetV W (.bool e3))) := Lib.hid (fun W h => he3 ▸ hS S mb hd.Ae hd.ce x.els inFn W (hH.els.fr0 (hF.trans h)) (hm.fr0 h) ((Nd.tx_iff x).1 htx).2.2.2)
 clear he1 he2 he3 hE hS
 have cE := fun d os => Calls.regrown_of ((CE.out _ (Fr.of_below (below_regrown V2 d os))).mono fun e w' h => ⟨h.1, h.2.below⟩)
 have cB := fun d os => Calls.regrown_of ((CB.out _ (Fr.of_below (below_regrown V2 d os))).mono fun e w' h => ⟨h.1, h.2.below⟩)
 have cX := fun d os => Calls.regrown_of ((CX.out _ (Fr.of_below (below_regrown V2 d os))).mono fun e w' h => ⟨h.1, h.2.below⟩)
 have m0 := fun d os => cell_regrown m0 d os
 have c3 := fun d os => cell_regrown c3 d os
 have c5 := fun d os => cell_regrown c5 d os
 have c6 := fun d os => cell_regrown c6 d os
 obtain ⟨q, hq⟩ : ∃ q, r.fn = q := ⟨_, rfl⟩
 rw [hq] at k5 cB
 have k5 := fun d os => cell_regrown k5 d os
 clear hq hBR hC0 hmV hNV hm k1 k2 k3 k4 c0 c2 c4 HV HR HBF HRU HOWN hC hN hH CE CB CX
 cases e1
 ·skip
  refine wp_region_quiet_below (by kernel_rfl) (by kernel_rfl) ?_
  repeat (go_big_quiet_step (first | with_reducible exact cE _ _ | with_reducible exact cB _ _ | with_reducible exact cX _ _))
  refine wpQuiet_nil ?_
  intro _ hw
  obtain ⟨⟨dq, osq⟩, hw2⟩ := hw
  subst hw2
  have hQ : Fr [] V2 (grow (redrawn V2 dq) osq) := Fr.of_below (below_regrown V2 dq osq)
  obtain ⟨VQ, hVQ⟩ : ∃ X, X = grow (redrawn V2 dq) osq := ⟨_, rfl⟩
  rw [← hVQ] at hQ ⊢
  clear hVQ dq osq
  go_wp2
  go_ret
  exact ⟨ret_bool HX.out.symm, hF.trans hQ⟩
 cases inFn <;> cases e2
 all_goals (
  simp only [Bool.false_or, Bool.true_or] at cB
  refine wp_region_quiet_below (by kernel_rfl) (by kernel_rfl) ?_
  repeat (go_big_quiet_step (first | with_reducible exact cE _ _ | with_reducible exact cB _ _ | with_reducible exact cX _ _))
  refine wpQuiet_nil ?_
  intro _ hw
  obtain ⟨⟨dq, osq⟩, hw2⟩ := hw
  subst hw2
  have hQ : Fr [] V2 (grow (redrawn V2 dq) osq) := Fr.of_below (below_regrown V2 dq osq)
  obtain ⟨VQ, hVQ⟩ : ∃ X, X = grow (redrawn V2 dq) osq := ⟨_, rfl⟩
  rw [← hVQ] at hQ ⊢
  clear hVQ dq osq
  go_wp2
  go_ret
  exact ⟨ret_bool HX.out.symm, hF.trans hQ⟩)
end

/- Nodes, Shape of the program. -/
section
open Go.RowKit Go.Sort
set_option linter.unusedSimpArgs false
theorem lists_ok : ∀ n, ListsOk true n ∧ ListsOk false n
  | 0 => ⟨fun S mb A c l inFn w h => absurd h id, fun S mb A c l inFn w h => absurd h id⟩
  | n + 1 => by
    obtain ⟨h1, h2⟩ := lists_ok n
    have hn : NodeOk n := fun S mb b o x hd inFn w hN hH hm ht => node_step n h1 h2 S mb b o x hd inFn w hN hH hm ht
    exact ⟨fun S mb A c l inFn w hl hm hs => expressions_step n hn S mb A c l inFn w hl hm hs, fun S mb A c l inFn w hl hm hs => statements_step n hn S mb A c l inFn w hl hm hs⟩
def TxF (fs : List Fu) : Prop := ∀ f ∈ fs, f.name.size ≤ 9223372036854775807 ∧ (∀ s ∈ f.params, s.size ≤ 9223372036854775807) ∧ TxL f.body
set_option maxRecDepth 20000 in
set_option maxHeartbeats 1600000 in
theorem Nodes_any (A : Option Addr) (c : Nat) (fs : List Fu) (S : Nat → Prop) (n : Nat) (w : World) (h : RF S n w A c fs) (hb : cntF fs ≤ 1000000000) :
  Calls Tryz.prog 48 #[.agg #[.slice A fs.length c]] w (RetV w (.tuple #[.int .i64 (cntF fs : Nat), .int .i64 (depF fs : Nat)])) := by
 have hl1 := h.bound
 have hdl := depF_le fs
 obtain ⟨W, hW⟩ : ∃ W, W = w.alloc (.cells #[.slice A fs.length c] 25) := ⟨_, rfl⟩
 have hf0 : Fr [] w W := by rw [hW]; exact (Fr.refl _ _).alloc _
 have hB : Blk W w.heap.size 25 #[.slice A fs.length c] := by rw [hW]; exact Blk.new _ _ _ _ rfl
 have q0 : W.cell? ⟨w.heap.size, 0, none⟩ = some (.slice A fs.length c) := hB.cell 0 rfl
 have HW := Lib.hid hW.symm
 clear hW
 go_enter Tryz.func48, Tryz.ntmps48
 go_upto_region 1 with fail
 rw [HW.out]
 go_wp2
 go_loopw [2, 3, 10] (fun a d i wr => ∃ k : Nat, k ≤ fs.length ∧ i = .int .i64 k ∧ a = .int .i64 (cntF (fs.take k) : Nat) ∧ d = .int .i64 (depF (fs.take k) : Nat) ∧ Fr [] W wr) (fun _ _ i _ => fs.length - (intOf i).toNat)
 case atStart => exact ⟨0, Nat.zero_le _, rfl, rfl, rfl, Fr.refl _ _⟩
 case round =>
  obtain ⟨k, hk, rfl, rfl, rfl, hf⟩ := hrel
  have q0 := hf.cell q0 (by simp)
  by_cases hlt : k < fs.length
  ·obtain ⟨b, off, f, Ap, cp, Ab, cb, rfl, hx, f0, f1, f2, hP, hL, _⟩ := h.at_ hlt
   have c2 := (hf0.trans hf).cell f2 (by simp)
   have HC := Lib.hid (cntF_take hx)
   have HD := Lib.hid (depF_take hx)
   have hb2 := cntF_take_le fs (k + 1)
   rw [HC.out] at hb2
   have hb3 := depF_le (fs.take k)
   have hd1 := depL_le f.body
   generalize cntF (fs.take k) = s0 at *
   generalize depF (fs.take k) = d0 at *
   go_wp2_with fail
   refine (count_any n S Ab cb f.body _ (hL.fr0 (hf0.trans hf)) (by omega)).mono ?_
   rintro e w3 ⟨rfl, hf3⟩
   generalize cntL f.body = s1 at *
   generalize depL f.body = d1 at *
   go_wp2
   go_roundw
   case rel => exact ⟨k + 1, by omega, by go_num, by rw [HC.out]; go_num, by rw [HD.out]; congr 1; split <;> omega, hf.trans hf3⟩
   case measure => simp [intOf]; omega
  ·rw [List.take_of_length_le (by omega)]
   go_wp2
   go_ret2
   exact ⟨rfl, hf0.trans hf⟩
theorem shape_limit {fs : List Fu} (h1 : ¬ 16 < fs.length) (h2 : 1024 < cntF fs ∨ 24 < depF fs) : shapeP fs = 3 := by unfold shapeP; rw [if_neg h1, if_pos h2]
theorem shape_on {fs : List Fu} (h1 : ¬ 16 < fs.length) (h2 : ¬ (1024 < cntF fs ∨ 24 < depF fs)) : shapeP fs = if fs.all fuB then 0 else 1 := by unfold shapeP; rw [if_neg h1, if_neg h2]
theorem all_bad {fs : List Fu} {k : Nat} {f : Fu} (hx : Hid (fs[k]? = some f)) (h : fuB f = false) : fs.all fuB = false := by
 rw [List.all_eq_false]
 exact ⟨f, List.mem_of_getElem? hx.out, by simp [h]⟩
theorem all_on {fs : List Fu} {k : Nat} {f : Fu} (hx : Hid (fs[k]? = some f)) (h : fuB f = true) (ha : Hid ((fs.take k).all fuB = true)) : Hid ((fs.take (k + 1)).all fuB = true) := by
 show _ = _
 rw [take_at hx, List.all_append, ha.out]
 simp [h]
set_option maxRecDepth 20000 in
set_option maxHeartbeats 3200000 in
theorem Shape_any (A : Option Addr) (c : Nat) (fs : List Fu) (S : Nat → Prop) (n : Nat) (w : World) (h : RF S n w A c fs) (hb : cntF fs ≤ 1000000000) (ht : TxF fs) :
  Calls Tryz.prog 46 #[.agg #[.slice A fs.length c]] w (RetV w (.int .i64 (shapeP fs))) := by
 have hl1 := h.bound
 have hdl := depF_le fs
 obtain ⟨W, hW⟩ : ∃ W, W = w.alloc (.cells #[.slice A fs.length c] 25) := ⟨_, rfl⟩
 have hf0 : Fr [] w W := by rw [hW]; exact (Fr.refl _ _).alloc _
 have hB : Blk W w.heap.size 25 #[.slice A fs.length c] := by rw [hW]; exact Blk.new _ _ _ _ rfl
 have q0 : W.cell? ⟨w.heap.size, 0, none⟩ = some (.slice A fs.length c) := hB.cell 0 rfl
 have HW := Lib.hid hW.symm
 clear hW
 by_cases h1 : 16 < fs.length
 ·have HS : Hid (shapeP fs = 3) := Lib.hid (by unfold shapeP; rw [if_pos h1])
  go_enter Tryz.func46, Tryz.ntmps46
  go_upto_region 1 with fail
  rw [HW.out]
  go_wp2
  go_ret
  rw [HS.out]
  exact ⟨rfl, hf0⟩
 have HN := Lib.hid (Nodes_any A c fs S n W (h.fr0 hf0) hb)
 by_cases h2 : 1024 < cntF fs ∨ 24 < depF fs
 ·have HS := Lib.hid (shape_limit h1 h2)
  generalize cntF fs = nn at *
  generalize depF fs = dd at *
  go_enter Tryz.func46, Tryz.ntmps46
  go_upto_region 1 with fail
  rw [HW.out]
  go_wp2_with fail
  refine HN.out.mono ?_
  rintro e w1 ⟨rfl, hf1⟩
  by_cases h3 : 1024 < nn
  ·go_wp2_with fail
   go_ret
   rw [HS.out]
   exact ⟨rfl, hf0.trans hf1⟩
  ·have h4 : 24 < dd := h2.resolve_left h3
   go_wp2_with fail
   go_ret
   rw [HS.out]
   exact ⟨rfl, hf0.trans hf1⟩
 have HS := Lib.hid (shape_on h1 h2)
 have h3 : ¬ 1024 < cntF fs := fun h => h2 (.inl h)
 have h4 : ¬ 24 < depF fs := fun h => h2 (.inr h)
 clear h2
 have HT := Lib.hid ht
 clear ht
 generalize cntF fs = nn at *
 generalize depF fs = dd at *
 go_enter Tryz.func46, Tryz.ntmps46
 go_upto_region 1 with fail
 rw [HW.out]
 go_wp2_with fail
 refine HN.out.mono ?_
 rintro e w1 ⟨rfl, hf1⟩
 clear HN
 have q1 := hf1.cell q0 (by simp)
 go_wp2_with fail
 refine (rules_any _).mono ?_
 rintro e w2 ⟨mb, rfl, hf2, hmb, hM⟩
 have hf2 : Fr [] w1 w2 := Fr.trans frx hf2
 have q2 := hf2.cell q1 (by simp)
 obtain ⟨V, hV⟩ : ∃ V, V = w2.alloc (.cells #[.map (some mb)] 152) := ⟨_, rfl⟩
 have hf3 : Fr [] w2 V := by rw [hV]; exact (Fr.refl _ _).alloc _
 have hC : Blk V w2.heap.size 152 #[.map (some mb)] := by rw [hV]; exact Blk.new _ _ _ _ rfl
 have m0 : V.cell? ⟨w2.heap.size, 0, none⟩ = some (.map (some mb)) := hC.cell 0 rfl
 have hMV := hM.fr0 hf3
 have q3 := hf3.cell q2 (by simp)
 have hFV := ((hf0.trans hf1).trans hf2).trans hf3
 have HV := Lib.hid hV.symm
 clear hV q0 q1 q2 hf1 hf2 hf3 hC hM hmb
 go_upto_region 7 with fail
 rw [HV.out]
 go_wp2_with fail
 go_loopw [28] (fun i wr => ∃ k : Nat, k ≤ fs.length ∧ i = .int .i64 k ∧ Hid ((fs.take k).all fuB = true) ∧ Fr [] V wr) (fun i _ => fs.length - (intOf i).toNat)
 case atStart => exact ⟨0, Nat.zero_le _, rfl, rfl, Fr.refl _ _⟩
 case round =>
  obtain ⟨k, hk, rfl, ha, hf⟩ := hrel
  have q3 := hf.cell q3 (by simp)
  have m0 := hf.cell m0 (by simp)
  by_cases hlt : k < fs.length
  ·obtain ⟨b, off, f, Ap, cp, Ab, cb, rfl, hx, f0, f1, f2, hP, hL, _⟩ := h.at_ hlt
   have hF := hFV.trans hf
   have f0 := hF.cell f0 (by simp)
   have f1 := hF.cell f1 (by simp)
   have f2 := hF.cell f2 (by simp)
   obtain ⟨t1, t2, t3⟩ := HT.out f (List.mem_of_getElem? hx.out)
   have HFU : Hid (fuB f = (nameOk f.name && paramsB f.params && lsB false false f.body)) := rfl
   obtain ⟨V2, rfl⟩ : ∃ V2, V2 = wr := ⟨wr, rfl⟩
   have CN : Hid (∀ W, Fr [] V2 W → Calls Tryz.prog 20 #[.string f.name] W (RetV W (.bool (nameOk f.name)))) := fun W h => Name_any f.name W t1
   have CP : Hid (∀ W, Fr [] V2 W → Calls Tryz.prog 115 #[.slice Ap f.params.length cp] W (RetV W (.bool (paramsB f.params)))) := fun W h => params_any Ap cp f.params W (hP.fr0 (hF.trans h)).1 t2
   have CS : Hid (∀ W, Fr [] V2 W → Calls Tryz.prog 116 #[.agg #[.map (some mb)], .slice Ab f.body.length cb, .bool false] W (RetV W (.bool (lsB false false f.body)))) := fun W h => (lists_ok n).2 S mb Ab cb f.body false W (hL.fr0 (hF.trans h)) ((hMV.fr0 hf).fr0 h) t3
   generalize nameOk f.name = b1 at *
   generalize paramsB f.params = b2 at *
   generalize lsB false false f.body = b3 at *
   have cN := fun d os => Calls.regrown_of ((CN.out _ (Fr.of_below (below_regrown V2 d os))).mono fun e w' h => ⟨h.1, h.2.below⟩)
   have cP := fun d os => Calls.regrown_of ((CP.out _ (Fr.of_below (below_regrown V2 d os))).mono fun e w' h => ⟨h.1, h.2.below⟩)
   have cS := fun d os => Calls.regrown_of ((CS.out _ (Fr.of_below (below_regrown V2 d os))).mono fun e w' h => ⟨h.1, h.2.below⟩)
   have f0 := fun d os => cell_regrown f0 d os
   have f1 := fun d os => cell_regrown f1 d os
   have f2 := fun d os => cell_regrown f2 d os
   have m0 := fun d os => cell_regrown m0 d os
   clear CN CP CS HT HV hP hL hMV t1 t2 t3
   cases b1
   ·have HB := Lib.hid (all_bad hx (by rw [HFU.out]; rfl))
    go_wp2_with fail
    refine wp_region_quiet_below (by kernel_rfl) (by kernel_rfl) ?_
    repeat (go_big_quiet_step (first | with_reducible exact cN _ _ | with_reducible exact cP _ _ | with_reducible exact cS _ _))
    refine wpQuiet_nil ?_
    intro _ hw
    obtain ⟨⟨dq, osq⟩, hw2⟩ := hw
    subst hw2
    have hQ : Fr [] V2 (grow (redrawn V2 dq) osq) := Fr.of_below (below_regrown V2 dq osq)
    obtain ⟨VQ, hVQ⟩ : ∃ X, X = grow (redrawn V2 dq) osq := ⟨_, rfl⟩
    rw [← hVQ] at hQ ⊢
    clear hVQ dq osq
    go_wp2
    go_ret
    rw [HS.out, HB.out]
    exact ⟨rfl, hF.trans hQ⟩
   cases b2
   ·have HB := Lib.hid (all_bad hx (by rw [HFU.out]; rfl))
    go_wp2_with fail
    refine wp_region_quiet_below (by kernel_rfl) (by kernel_rfl) ?_
    repeat (go_big_quiet_step (first | with_reducible exact cN _ _ | with_reducible exact cP _ _ | with_reducible exact cS _ _))
    refine wpQuiet_nil ?_
    intro _ hw
    obtain ⟨⟨dq, osq⟩, hw2⟩ := hw
    subst hw2
    have hQ : Fr [] V2 (grow (redrawn V2 dq) osq) := Fr.of_below (below_regrown V2 dq osq)
    obtain ⟨VQ, hVQ⟩ : ∃ X, X = grow (redrawn V2 dq) osq := ⟨_, rfl⟩
    rw [← hVQ] at hQ ⊢
    clear hVQ dq osq
    go_wp2
    go_ret
    rw [HS.out, HB.out]
    exact ⟨rfl, hF.trans hQ⟩
   cases b3
   ·have HB := Lib.hid (all_bad hx (by rw [HFU.out]; rfl))
    go_wp2_with fail
    refine wp_region_quiet_below (by kernel_rfl) (by kernel_rfl) ?_
    repeat (go_big_quiet_step (first | with_reducible exact cN _ _ | with_reducible exact cP _ _ | with_reducible exact cS _ _))
    refine wpQuiet_nil ?_
    intro _ hw
    obtain ⟨⟨dq, osq⟩, hw2⟩ := hw
    subst hw2
    have hQ : Fr [] V2 (grow (redrawn V2 dq) osq) := Fr.of_below (below_regrown V2 dq osq)
    obtain ⟨VQ, hVQ⟩ : ∃ X, X = grow (redrawn V2 dq) osq := ⟨_, rfl⟩
    rw [← hVQ] at hQ ⊢
    clear hVQ dq osq
    go_wp2
    go_ret
    rw [HS.out, HB.out]
    exact ⟨rfl, hF.trans hQ⟩
   ·have HB := all_on hx (by rw [HFU.out]; rfl) ha
    go_wp2_with fail
    refine wp_region_quiet_below (by kernel_rfl) (by kernel_rfl) ?_
    repeat (go_big_quiet_step (first | with_reducible exact cN _ _ | with_reducible exact cP _ _ | with_reducible exact cS _ _))
    refine wpQuiet_nil ?_
    intro _ hw
    obtain ⟨⟨dq, osq⟩, hw2⟩ := hw
    subst hw2
    have hQ : Fr [] V2 (grow (redrawn V2 dq) osq) := Fr.of_below (below_regrown V2 dq osq)
    obtain ⟨VQ, hVQ⟩ : ∃ X, X = grow (redrawn V2 dq) osq := ⟨_, rfl⟩
    rw [← hVQ] at hQ ⊢
    clear hVQ dq osq
    go_wp2
    go_roundw
    case rel => exact ⟨k + 1, by omega, by go_num, HB, hf.trans hQ⟩
    case measure => simp [intOf]; omega
  ·have HB : Hid (fs.all fuB = true) := by
    have := ha.out
    rw [List.take_of_length_le (by omega)] at this
    exact this
   go_wp2
   go_ret
   rw [HS.out, HB.out]
   exact ⟨rfl, hFV.trans hf⟩
end

/- How great a program is, as the statements reckon it: plain. -/
section
open Go.RowKit
set_option linter.unusedSimpArgs false
mutual
def Nd.tm : Nd → Prop
 | .mk k t m s p b e => (t.size ≤ 140737488351232 ∧ p.length ≤ 140737488351232 ∧ ∀ s ∈ p, s.size ≤ 140737488351232) ∧ tmL s ∧ tmL b ∧ tmL e
def tmL : List Nd → Prop
 | [] => True
 | x :: l => x.tm ∧ tmL l
end
theorem Nd.tm_eq (x : Nd) : x.tm = ((x.text.size ≤ 140737488351232 ∧ x.params.length ≤ 140737488351232 ∧ ∀ s ∈ x.params, s.size ≤ 140737488351232) ∧ tmL x.subs ∧ tmL x.body ∧ tmL x.els) := by
 cases x
 rw [Nd.tm]
 rfl
theorem tmL_iff : ∀ {l : List Nd}, tmL l ↔ ∀ x ∈ l, x.tm
 | [] => by simp [tmL]
 | x :: l => by rw [tmL, tmL_iff]; simp
theorem tm_tx (x : Nd) : x.tm → x.tx := by
  induction x using Nd.ind with
  | h x hs hb he =>
    intro h
    rw [Nd.tm_eq] at h
    exact (Nd.tx_iff x).2 ⟨⟨by omega, fun s hs => by have := h.1.2.2 s hs; omega⟩, fun y hy => hs y hy (tmL_iff.1 h.2.1 y hy), fun y hy => hb y hy (tmL_iff.1 h.2.2.1 y hy), fun y hy => he y hy (tmL_iff.1 h.2.2.2 y hy)⟩
mutual
def Nd.wt : Nd → Nat → Nat → Nat
  | .mk k t m s p b e, d, w =>
    let w1 := w + (1 + t.size / 16 + p.length + (if 60 < d + 1 then 9000 else wtG s (d + 1) 0))
    let w2 := if w1 < 9000 then w1 + (if 60 < d + 1 then 9000 else wtG b (d + 1) 0) else w1
    if w2 < 9000 then w2 + (if 60 < d + 1 then 9000 else wtG e (d + 1) 0) else w2
def wtG : List Nd → Nat → Nat → Nat
  | [], _, w => w
  | x :: l, d, w => if w < 9000 then wtG l d (x.wt d w) else w
end
def wtL (l : List Nd) (d : Nat) : Nat := if 60 < d then 9000 else wtG l d 0
theorem Nd.wt_eq (x : Nd) (d w : Nat) : x.wt d w = (
  let w1 := w + (1 + x.text.size / 16 + x.params.length + wtL x.subs (d + 1))
  let w2 := if w1 < 9000 then w1 + wtL x.body (d + 1) else w1
  if w2 < 9000 then w2 + wtL x.els (d + 1) else w2) := by
 cases x
 rw [Nd.wt]
 rfl
theorem wtG_nil (d w : Nat) : wtG [] d w = w := by rw [wtG]
theorem wtG_cons (x : Nd) (l : List Nd) (d w : Nat) : wtG (x :: l) d w = if w < 9000 then wtG l d (x.wt d w) else w := by rw [wtG]
def bndW (d : Nat) : Nat := (61 - d) * 562949953421312 + 9000
theorem bndW_succ {d : Nat} (h : d ≤ 60) : bndW (d + 1) + 562949953421312 = bndW d := by
 unfold bndW
 omega
theorem bndW_le (d : Nat) : bndW d ≤ 40000000000000000 := by
 unfold bndW
 omega
theorem bndW_ge (d : Nat) : 9000 ≤ bndW d := by unfold bndW; omega
theorem wtG_bnd (d : Nat) (hd : d ≤ 60) : ∀ (l : List Nd) (w : Nat), (∀ x ∈ l, ∀ w, w < 9000 → x.wt d w ≤ bndW d) → w ≤ bndW d → wtG l d w ≤ bndW d
  | [], w, _, h => by rw [wtG_nil]; exact h
  | x :: l, w, hx, h => by
    rw [wtG_cons]
    split
    · rename_i h1
      exact wtG_bnd d hd l _ (fun y hy => hx y (List.mem_cons_of_mem _ hy)) (hx x (by simp) w h1)
    · exact h
theorem wt_bnd (x : Nd) : ∀ (d w : Nat), x.tm → d ≤ 60 → w < 9000 → x.wt d w ≤ bndW d := by
  induction x using Nd.ind with
  | h x hs hb he =>
    intro d w ht hd hw
    rw [Nd.tm_eq] at ht
    obtain ⟨⟨h1, h2, _⟩, h3, h4, h5⟩ := ht
    have h6 := bndW_succ hd
    have h7 := bndW_ge (d + 1)
    have H : ∀ l : List Nd, (∀ y ∈ l, ∀ (d w : Nat), y.tm → d ≤ 60 → w < 9000 → y.wt d w ≤ bndW d) → tmL l → wtL l (d + 1) ≤ bndW (d + 1) := by
      intro l ih hl
      unfold wtL
      split
      · exact h7
      · exact wtG_bnd (d + 1) (by omega) l 0 (fun y hy w hw => ih y hy (d + 1) w (tmL_iff.1 hl y hy) (by omega) hw) (Nat.zero_le _)
    have a1 := H x.subs hs h3
    have a2 := H x.body hb h4
    have a3 := H x.els he h5
    rw [Nd.wt_eq]
    simp only
    generalize wtL x.subs (d + 1) = s1 at *
    generalize wtL x.body (d + 1) = s2 at *
    generalize wtL x.els (d + 1) = s3 at *
    by_cases h8 : w + (1 + x.text.size / 16 + x.params.length + s1) < 9000
    · rw [if_pos h8]
      split <;> omega
    · rw [if_neg h8, if_neg h8]
      omega
theorem wtL_bnd {l : List Nd} (h : tmL l) (d : Nat) : wtL l d ≤ bndW d := by
 unfold wtL
 split
 ·exact bndW_ge d
 ·exact wtG_bnd d (by omega) l 0 (fun y hy w hw => wt_bnd y d w (tmL_iff.1 h y hy) (by omega) hw) (Nat.zero_le _)
mutual
def Nd.we : Nd → Nat
 | .mk k t m s p b e => 1 + t.size / 16 + p.length + weL s + weL b + weL e
def weL : List Nd → Nat
 | [] => 0
 | x :: l => x.we + weL l
end
theorem Nd.we_eq (x : Nd) : x.we = 1 + x.text.size / 16 + x.params.length + weL x.subs + weL x.body + weL x.els := by
 cases x
 rw [Nd.we]
 rfl
theorem wtG_exact (d : Nat) (hd : d ≤ 60) : ∀ (l : List Nd) (w : Nat), (∀ x ∈ l, ∀ w, x.wt d w < 9000 → x.wt d w = w + x.we ∧ d + x.dep ≤ 60) → wtG l d w < 9000 → wtG l d w = w + weL l ∧ d + depL l ≤ 60
  | [], w, _, h => by rw [wtG_nil, weL, depL]; omega
  | x :: l, w, hx, h => by
    rw [wtG_cons] at h ⊢
    split at h
    · rename_i h1
      rw [if_pos h1]
      obtain ⟨e1, e2⟩ := wtG_exact d hd l _ (fun y hy => hx y (List.mem_cons_of_mem _ hy)) h
      have h2 : x.wt d w < 9000 := by omega
      obtain ⟨e3, e4⟩ := hx x (by simp) w h2
      rw [e1, e3, weL, depL]
      omega
    · omega
theorem wt_exact (x : Nd) : ∀ (d w : Nat), d ≤ 60 → x.wt d w < 9000 → x.wt d w = w + x.we ∧ d + x.dep ≤ 60 := by
  induction x using Nd.ind with
  | h x hs hb he =>
    intro d w hd h
    have H : ∀ l : List Nd, (∀ y ∈ l, ∀ (d w : Nat), d ≤ 60 → y.wt d w < 9000 → y.wt d w = w + y.we ∧ d + y.dep ≤ 60) → wtL l (d + 1) < 9000 → wtL l (d + 1) = weL l ∧ d + 1 + depL l ≤ 60 ∧ d + 1 ≤ 60 := by
      intro l ih hl
      unfold wtL at hl ⊢
      split at hl
      · omega
      · rename_i h1
        rw [if_neg h1]
        have := wtG_exact (d + 1) (by omega) l 0 (fun y hy w hw => ih y hy (d + 1) w (by omega) hw) hl
        omega
    have a1 := H x.subs hs
    have a2 := H x.body hb
    have a3 := H x.els he
    have hde := x.dep_eq
    rw [Nd.wt_eq] at h ⊢
    rw [Nd.we_eq]
    simp only at h ⊢
    generalize wtL x.subs (d + 1) = s1 at *
    generalize wtL x.body (d + 1) = s2 at *
    generalize wtL x.els (d + 1) = s3 at *
    by_cases h8 : w + (1 + x.text.size / 16 + x.params.length + s1) < 9000
    · rw [if_pos h8] at h ⊢
      by_cases h9 : w + (1 + x.text.size / 16 + x.params.length + s1) + s2 < 9000
      · rw [if_pos h9] at h ⊢
        have b1 := a1 (by omega)
        have b2 := a2 (by omega)
        have b3 := a3 (by omega)
        omega
      · rw [if_neg h9] at h
        omega
    · rw [if_neg h8, if_neg h8] at h
      omega
theorem we_cnt (x : Nd) : x.cnt ≤ x.we := by
  induction x using Nd.ind with
  | h x hs hb he =>
    have H : ∀ l : List Nd, (∀ y ∈ l, y.cnt ≤ y.we) → cntL l ≤ weL l := by
      intro l
      induction l with
      | nil => intro _; simp [cntL, weL]
      | cons y l ih =>
        intro h
        have h1 := ih fun z hz => h z (List.mem_cons_of_mem _ hz)
        have h2 := h y (by simp)
        rw [cntL, weL]
        omega
    have a1 := H _ hs
    have a2 := H _ hb
    have a3 := H _ he
    rw [Nd.cnt_eq, Nd.we_eq]
    omega
theorem weL_cnt (l : List Nd) : cntL l ≤ weL l := by
 induction l with
 | nil => simp [cntL, weL]
 | cons y l ih => rw [cntL, weL]; have := we_cnt y; omega
def grG : List Fu → Nat → Nat
 | [], w => w
 | f :: fs, w => if w < 9000 then grG fs (w + (f.name.size / 16 + f.params.length + wtL f.body 0)) else w
def greatW (fs : List Fu) : Nat := grG fs fs.length
def greatP (fs : List Fu) : Bool := decide (2200 < greatW fs)
def tmF (fs : List Fu) : Prop := ∀ f ∈ fs, (f.name.size ≤ 140737488351232 ∧ f.params.length ≤ 140737488351232 ∧ ∀ s ∈ f.params, s.size ≤ 140737488351232) ∧ tmL f.body
theorem tmF_tx {fs : List Fu} (h : tmF fs) : TxF fs := by
 intro f hf
 obtain ⟨⟨h1, h2, h3⟩, h4⟩ := h f hf
 exact ⟨by omega, fun s hs => by have := h3 s hs; omega, fun y hy => tm_tx y (tmL_iff.1 h4 y hy)⟩
theorem grG_exact : ∀ (fs : List Fu) (w : Nat), grG fs w < 9000 → w + cntF fs ≤ grG fs w ∧ depF fs ≤ 60
  | [], w, h => by simp [grG, cntF, depF]
  | f :: fs, w, h => by
    rw [grG] at h ⊢
    split at h
    · rename_i h1
      rw [if_pos h1]
      obtain ⟨e1, e2⟩ := grG_exact fs _ h
      have h2 : wtL f.body 0 < 9000 := by omega
      have h3 : wtL f.body 0 = weL f.body ∧ depL f.body ≤ 60 := by
        unfold wtL at h2 ⊢
        rw [if_neg (by omega)] at h2 ⊢
        have := wtG_exact 0 (by omega) f.body 0 (fun y hy w hw => wt_exact y 0 w (by omega) hw) h2
        omega
      have h4 := weL_cnt f.body
      have e3 : cntF (f :: fs) = cntL f.body + cntF fs := by simp [cntF]
      refine ⟨by rw [e3]; omega, ?_⟩
      have e4 : ∀ (fs : List Fu) (d : Nat), fs.foldl (fun d f => max d (depL f.body)) d = max d (depF fs) := by
        intro fs
        induction fs with
        | nil => intro d; simp [depF]
        | cons g gs ih =>
          intro d
          unfold depF
          rw [List.foldl_cons, List.foldl_cons, ih, ih]
          omega
      show depF (f :: fs) ≤ 60
      unfold depF
      rw [List.foldl_cons, e4]
      omega
    · omega
theorem small_of {fs : List Fu} (h : greatP fs = false) : cntF fs ≤ 2200 ∧ depF fs ≤ 60 ∧ fs.length ≤ 2200 := by
 unfold greatP greatW at h
 rw [decide_eq_false_iff_not] at h
 have := grG_exact fs fs.length (by omega)
 omega
end

/- weight, Great. -/
section
open Go.RowKit Go.Sort
set_option linter.unusedSimpArgs false
def WgtP (n : Nat) : Prop := ∀ (S : Nat → Prop) (A : Option Addr) (c : Nat) (l : List Nd) (d : Nat) (w : World), LN S n w A c l → tmL l → d ≤ 61 →
 Calls Tryz.prog 83 #[.slice A l.length c, .int .i64 d] w (RetV w (.int .i64 (wtL l d)))
theorem wtG_drop {l : List Nd} {k d s : Nat} {x : Nd} (h : Hid (l[k]? = some x)) (hs : s < 9000) : wtG (l.drop k) d s = wtG (l.drop (k + 1)) d (x.wt d s) := by
 have hk : k < l.length := (List.getElem?_eq_some_iff.1 h.out).1
 have hx : l[k] = x := (List.getElem?_eq_some_iff.1 h.out).2
 rw [List.drop_eq_getElem_cons hk, hx, wtG_cons, if_pos hs]
theorem wtG_big {l : List Nd} {d s : Nat} (hs : ¬ s < 9000) : wtG l d s = s := by
 cases l with
 | nil => exact wtG_nil d s
 | cons x l => rw [wtG_cons, if_neg hs]
set_option maxRecDepth 20000 in
set_option maxHeartbeats 3200000 in
theorem weight_step (n : Nat) (ih : WgtP n) : WgtP (n + 1) := by
 intro S A c l d w hl ht hd
 have hl1 := hl.len
 go_enter Tryz.func83, Tryz.ntmps83
 by_cases h60 : 60 < d
 ·have HR : Hid (wtL l d = 9000) := Lib.hid (by unfold wtL; rw [if_pos h60])
  go_wp2
  go_ret
  rw [HR.out]
  exact ⟨rfl, Fr.refl _ _⟩
 have HR : Hid (wtL l d = wtG l d 0) := Lib.hid (by unfold wtL; rw [if_neg h60])
 have HL := Lib.hid hl
 have HM := Lib.hid ht
 have IH := Lib.hid ih
 clear hl ht ih
 go_wp2
 go_loopw [5, 6] (fun v i wr => ∃ k s : Nat, k ≤ l.length ∧ i = .int .i64 k ∧ v = .int .i64 s ∧ Hid (wtG (l.drop k) d s = wtG l d 0) ∧ s ≤ bndW d ∧ Fr [] w wr) (fun _ i _ => l.length - (intOf i).toNat)
 case atStart => exact ⟨0, 0, Nat.zero_le _, rfl, rfl, Lib.hid rfl, Nat.zero_le _, Fr.refl _ _⟩
 case round =>
  obtain ⟨k, s, hk, rfl, rfl, HG, hs, hf⟩ := hrel
  have hbl := bndW_le d
  have hs2 : s ≤ 40000000000000000 := Nat.le_trans hs hbl
  clear hbl
  by_cases hlt : k < l.length
  ·by_cases h9 : s < 9000
   ·obtain ⟨kb, off, x, hdn, rfl, hx, hN, hH, hkb⟩ := (HL.out.fr0 hf).at_ hlt
    have hxm := tmL_iff.1 HM.out x (List.mem_of_getElem? hx.out)
    have hwb := wt_bnd x d s hxm (by omega) h9
    rw [Nd.tm_eq] at hxm
    obtain ⟨⟨t1, t2, _⟩, t3, t4, t5⟩ := hxm
    have b1 := Nat.le_trans (wtL_bnd t3 (d + 1)) (bndW_le _)
    have b2 := Nat.le_trans (wtL_bnd t4 (d + 1)) (bndW_le _)
    have b3 := Nat.le_trans (wtL_bnd t5 (d + 1)) (bndW_le _)
    have HW := Lib.hid (Nd.wt_eq x d s)
    have HD := Lib.hid (wtG_drop (d := d) hx h9)
    obtain ⟨V2, rfl⟩ : ∃ V2, V2 = wr := ⟨wr, rfl⟩
    have CS : Hid (∀ W, Fr [] V2 W → Calls Tryz.prog 83 #[.slice hdn.As x.subs.length hdn.cs, .int .i64 (d + 1)] W (RetV W (.int .i64 (wtL x.subs (d + 1))))) := Lib.hid fun W h => IH.out S _ _ _ (d + 1) W (hH.subs.fr0 h) t3 (by omega)
    have CB : Hid (∀ W, Fr [] V2 W → Calls Tryz.prog 83 #[.slice hdn.Ab x.body.length hdn.cb, .int .i64 (d + 1)] W (RetV W (.int .i64 (wtL x.body (d + 1))))) := Lib.hid fun W h => IH.out S _ _ _ (d + 1) W (hH.body.fr0 h) t4 (by omega)
    have CE : Hid (∀ W, Fr [] V2 W → Calls Tryz.prog 83 #[.slice hdn.Ae x.els.length hdn.ce, .int .i64 (d + 1)] W (RetV W (.int .i64 (wtL x.els (d + 1))))) := Lib.hid fun W h => IH.out S _ _ _ (d + 1) W (hH.els.fr0 h) t5 (by omega)
    generalize x.wt d s = sw at *
    generalize wtL x.subs (d + 1) = s1 at *
    generalize wtL x.body (d + 1) = s2 at *
    generalize wtL x.els (d + 1) = s3 at *
    have c1 := hN.c1
    have c3 := hN.c3
    have c4 := hN.c4
    have c5 := hN.c5
    have c6 := hN.c6
    clear hH hN t3 t4 t5
    have cS := fun d os => Calls.regrown_of ((CS.out _ (Fr.of_below (below_regrown V2 d os))).mono fun e w' h => ⟨h.1, h.2.below⟩)
    have c1 := fun d os => cell_regrown c1 d os
    have r3 := fun d os => cell_regrown c3 d os
    have r4 := fun d os => cell_regrown c4 d os
    have HWB := Lib.hid hwb
    have g9 : (s : Int) < 9000 := by omega
    clear hwb hs h9 HR hd h60
    go_wp2_with fail
    refine wp_region_quiet_below (by kernel_rfl) (by kernel_rfl) ?_
    repeat (go_big_quiet_step (with_reducible exact cS _ _))
    refine wpQuiet_nil ?_
    intro _ hw
    obtain ⟨⟨dq, osq⟩, hw2⟩ := hw
    subst hw2
    have hQ : Fr [] V2 (grow (redrawn V2 dq) osq) := Fr.of_below (below_regrown V2 dq osq)
    obtain ⟨VQ, hVQ⟩ : ∃ X, X = grow (redrawn V2 dq) osq := ⟨_, rfl⟩
    rw [← hVQ] at hQ ⊢
    clear hVQ dq osq
    have hc : (s : Int) + (1 + (x.text.size : Int) / 16 + x.params.length + s1) = ((s + (1 + x.text.size / 16 + x.params.length + s1) : Nat) : Int) := by omega
    rw [hc]
    have HW1 : Hid (s + (1 + x.text.size / 16 + x.params.length + s1) ≤ 50000000000000000) := Lib.hid (by omega)
    obtain ⟨w1, hw1⟩ : ∃ w1, s + (1 + x.text.size / 16 + x.params.length + s1) = w1 := ⟨_, rfl⟩
    have HW : Hid (sw = if (if s + (1 + x.text.size / 16 + x.params.length + s1) < 9000 then s + (1 + x.text.size / 16 + x.params.length + s1) + s2 else s + (1 + x.text.size / 16 + x.params.length + s1)) < 9000 then (if s + (1 + x.text.size / 16 + x.params.length + s1) < 9000 then s + (1 + x.text.size / 16 + x.params.length + s1) + s2 else s + (1 + x.text.size / 16 + x.params.length + s1)) + s3 else (if s + (1 + x.text.size / 16 + x.params.length + s1) < 9000 then s + (1 + x.text.size / 16 + x.params.length + s1) + s2 else s + (1 + x.text.size / 16 + x.params.length + s1))) := HW
    rw [hw1] at HW1 HW ⊢
    clear hw1
    have l1 := HW1.out
    have c5 := hQ.cell c5 (by simp)
    have c6 := hQ.cell c6 (by simp)
    have hfQ := hf.trans hQ
    clear HW1 t1 t2 b1 hc c1 r3 r4 cS
    have HW : Hid (sw = if (if w1 < 9000 then w1 + s2 else w1) < 9000 then (if w1 < 9000 then w1 + s2 else w1) + s3 else (if w1 < 9000 then w1 + s2 else w1)) := HW
    by_cases h8 : w1 < 9000
    ·have g8 : (w1 : Int) < 9000 := by omega
     rw [if_pos h8] at HW
     clear h8
     go_wp2_with fail
     refine (CB.out _ hQ).mono ?_
     rintro e wa ⟨rfl, hfa⟩
     have hQa := hQ.trans hfa
     have c6 := hfa.cell c6 (by simp)
     go_upto_region 10 with fail
     have hc : (w1 : Int) + s2 = ((w1 + s2 : Nat) : Int) := by omega
     rw [hc]
     have l2 : w1 + s2 ≤ 90000000000000000 := by omega
     obtain ⟨w2, hw2⟩ : ∃ w2, w1 + s2 = w2 := ⟨_, rfl⟩
     rw [hw2] at HW l2 ⊢
     clear hc hw2 l1 g8
     by_cases h7 : w2 < 9000
     ·have g7 : (w2 : Int) < 9000 := by omega
      rw [if_pos h7] at HW
      clear h7
      go_wp2_with fail
      refine (CE.out _ hQa).mono ?_
      rintro e wb ⟨rfl, hfb⟩
      have hQb := hQa.trans hfb
      go_wp2
      go_roundw
      case rel => exact ⟨k + 1, w2 + s3, by omega, by go_num, by go_num, by show _ = _; rw [← HG.out, HD.out, HW.out], by rw [← HW.out]; exact HWB.out, hf.trans hQb⟩
      case measure => simp [intOf]; omega
     ·have g7 : ¬ (w2 : Int) < 9000 := by omega
      rw [if_neg h7] at HW
      clear h7
      go_wp2
      go_roundw
      case rel => exact ⟨k + 1, w2, by omega, by go_num, by go_num, by show _ = _; rw [← HG.out, HD.out, HW.out], by rw [← HW.out]; exact HWB.out, hf.trans hQa⟩
      case measure => simp [intOf]; omega
    ·have g8 : ¬ (w1 : Int) < 9000 := by omega
     rw [if_neg h8, if_neg h8] at HW
     clear h8
     go_wp2
     go_roundw
     case rel => exact ⟨k + 1, w1, by omega, by go_num, by go_num, by show _ = _; rw [← HG.out, HD.out, HW.out], by rw [← HW.out]; exact HWB.out, hfQ⟩
     case measure => simp [intOf]; omega
   ·have g9 : ¬ (s : Int) < 9000 := by omega
    have HE : Hid (wtL l d = s) := Lib.hid (by rw [HR.out, ← HG.out, wtG_big h9])
    clear h9 hd h60 hs
    go_wp2
    go_ret
    rw [HE.out]
    exact ⟨rfl, hf⟩
  ·have HE : Hid (wtL l d = s) := Lib.hid (by rw [HR.out, ← HG.out, List.drop_eq_nil_of_le (by omega), wtG_nil])
   clear hd h60 hs
   go_wp2
   go_ret
   rw [HE.out]
   exact ⟨rfl, hf⟩
theorem weight_all (n : Nat) : WgtP n := by
 induction n with
 | zero => intro S A c l d w hl; exact absurd hl id
 | succ n ih => exact weight_step n ih
theorem grG_drop {l : List Fu} {k s : Nat} {f : Fu} (h : Hid (l[k]? = some f)) (hs : s < 9000) : grG (l.drop k) s = grG (l.drop (k + 1)) (s + (f.name.size / 16 + f.params.length + wtL f.body 0)) := by
 have hk : k < l.length := (List.getElem?_eq_some_iff.1 h.out).1
 have hx : l[k] = f := (List.getElem?_eq_some_iff.1 h.out).2
 rw [List.drop_eq_getElem_cons hk, hx, grG, if_pos hs]
theorem grG_big {l : List Fu} {s : Nat} (hs : ¬ s < 9000) : grG l s = s := by
 cases l with
 | nil => rw [grG]
 | cons x l => rw [grG, if_neg hs]
set_option maxRecDepth 20000 in
set_option maxHeartbeats 3200000 in
theorem Great_any {S : Nat → Prop} {n : Nat} {A : Option Addr} {c : Nat} {fs : List Fu} {w : World} (hR : RF S n w A c fs) (ht : tmF fs) (hfl : fs.length ≤ 140737488351232) :
  Calls Tryz.prog 24 #[.agg #[.slice A fs.length c]] w (RetV w (.bool (greatP fs))) := by
 obtain ⟨W, hW⟩ : ∃ W, W = w.alloc (.cells #[.slice A fs.length c] 25) := ⟨_, rfl⟩
 have hf0 : Fr [] w W := by rw [hW]; exact (Fr.refl _ _).alloc _
 have hB : Blk W w.heap.size 25 #[.slice A fs.length c] := by rw [hW]; exact Blk.new _ _ _ _ rfl
 have q0 : W.cell? ⟨w.heap.size, 0, none⟩ = some (.slice A fs.length c) := hB.cell 0 rfl
 have HW := Lib.hid hW.symm
 have HL := Lib.hid (hR.fr0 hf0)
 have HM := Lib.hid ht
 have HF := Lib.hid hfl
 clear hW hR ht
 go_enter Tryz.func24, Tryz.ntmps24
 go_upto_region 1 with fail
 rw [HW.out]
 go_wp2_with fail
 go_loopw [3, 4] (fun v i wr => ∃ k s : Nat, k ≤ fs.length ∧ i = .int .i64 k ∧ v = .int .i64 s ∧ Hid (grG (fs.drop k) s = greatW fs) ∧ s ≤ 50000000000000000 ∧ Fr [] W wr) (fun _ i _ => fs.length - (intOf i).toNat)
 case atStart => exact ⟨0, fs.length, Nat.zero_le _, rfl, rfl, Lib.hid rfl, by have := HF.out; omega, Fr.refl _ _⟩
 case round =>
  obtain ⟨k, s, hk, rfl, rfl, HG, hs, hf⟩ := hrel
  have r0 := hf.cell q0 (by simp)
  have hend : ∀ v, grG (fs.drop k) s = v → greatP fs = decide (2200 < v) := fun v h => by unfold greatP; rw [← HG.out, h]
  have HEND := Lib.hid hend
  clear hend
  by_cases hlt : k < fs.length
  ·by_cases h9 : s < 9000
   ·obtain ⟨kb, off, f, Ap, cp, Ab, cb, rfl, hx, c0, c1, c2, hp, hb, hkb⟩ := (HL.out.fr0 hf).at_ hlt
    obtain ⟨⟨t1, t2, _⟩, t3⟩ := HM.out f (List.mem_of_getElem? hx.out)
    have b1 := Nat.le_trans (wtL_bnd t3 0) (bndW_le _)
    have HD := Lib.hid (grG_drop hx h9)
    obtain ⟨V2, rfl⟩ : ∃ V2, V2 = wr := ⟨wr, rfl⟩
    have CB : Hid (∀ W, Fr [] V2 W → Calls Tryz.prog 83 #[.slice Ab f.body.length cb, .int .i64 0] W (RetV W (.int .i64 (wtL f.body 0)))) := Lib.hid fun W h => weight_all n S _ _ _ 0 W (hb.fr0 h) t3 (by omega)
    have cB := fun d os => Calls.regrown_of ((CB.out _ (Fr.of_below (below_regrown V2 d os))).mono fun e w' h => ⟨h.1, h.2.below⟩)
    generalize wtL f.body 0 = s1 at *
    clear CB
    have r0 := fun d os => cell_regrown r0 d os
    have c0 := fun d os => cell_regrown c0 d os
    have c1 := fun d os => cell_regrown c1 d os
    have c2 := fun d os => cell_regrown c2 d os
    have g9 : (s : Int) < 9000 := by omega
    clear hs h9 hp hb t3
    go_wp2_with fail
    refine wp_region_quiet_below (by kernel_rfl) (by kernel_rfl) ?_
    repeat (go_big_quiet_step (with_reducible exact cB _ _))
    refine wpQuiet_nil ?_
    intro _ hw
    obtain ⟨⟨dq, osq⟩, hw2⟩ := hw
    subst hw2
    have hQ : Fr [] V2 (grow (redrawn V2 dq) osq) := Fr.of_below (below_regrown V2 dq osq)
    obtain ⟨VQ, hVQ⟩ : ∃ X, X = grow (redrawn V2 dq) osq := ⟨_, rfl⟩
    rw [← hVQ] at hQ ⊢
    clear hVQ dq osq
    have hc : (s : Int) + ((f.name.size : Int) / 16 + f.params.length + s1) = ((s + (f.name.size / 16 + f.params.length + s1) : Nat) : Int) := by omega
    rw [hc]
    have l1 : s + (f.name.size / 16 + f.params.length + s1) ≤ 50000000000000000 := by omega
    obtain ⟨w1, hw1⟩ : ∃ w1, s + (f.name.size / 16 + f.params.length + s1) = w1 := ⟨_, rfl⟩
    rw [hw1] at HD l1 ⊢
    clear hc hw1 c0 c1 c2 r0 cB t1 t2 b1
    go_wp2
    go_roundw
    case rel => exact ⟨k + 1, w1, by omega, by go_num, by go_num, by show _ = _; rw [← HG.out, HD.out], l1, hf.trans hQ⟩
    case measure => simp [intOf]; omega
   ·have g9 : ¬ (s : Int) < 9000 := by omega
    have HE := Lib.hid (HEND.out s (grG_big h9))
    clear h9
    go_wp2
    go_ret
    exact ⟨ret_bool (by rw [HE.out, Bool.eq_iff_iff]; simp; omega), hf0.trans hf⟩
  ·have HE := Lib.hid (HEND.out s (by rw [List.drop_eq_nil_of_le (by omega), grG]))
   go_wp2
   go_ret
   exact ⟨ret_bool (by rw [HE.out, Bool.eq_iff_iff]; simp; omega), hf0.trans hf⟩
end

end Go.Proofs.YtchldahkcpbgcaaGreatDoor
