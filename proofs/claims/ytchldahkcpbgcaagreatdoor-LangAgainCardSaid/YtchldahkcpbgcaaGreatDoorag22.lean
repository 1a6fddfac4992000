/- Texts of this seat, one behind the other: ShpN, ShpI. -/
import Derived.Test.YtchldahkcpbgcaaGreatDoorag21
import Derived.Deep.DeepCutAuto
import Derived.Lib.QuietBelow
namespace Go.Proofs.YtchldahkcpbgcaaGreatDoor
set_option linter.unusedVariables false

/- The checker of shapes: a node. -/
section
open Go.RowKit Go.Sort
set_option linter.unusedSimpArgs false
theorem lookup_mem {κ ν : Type} [DecidableEq κ] {k : κ} {v : ν} : ∀ {m : List (κ × ν)}, m.lookup k = some v → (k, v) ∈ m
  | [], h => by cases h
  | (a, c) :: m, h => by
    by_cases hk : k = a
    · subst hk
      simp [List.lookup] at h
      subst h
      simp
    · rw [List.lookup, beq_eq_false_iff_ne.2 hk] at h
      exact List.mem_cons_of_mem _ (lookup_mem h)
section
variable {x : Nd} {r : Rul} {inFn : Bool}
theorem okB_fits (h : ruleOf x.kind = some r) (h1 : fitsB r.text x.text = false) : x.okB inFn = false := by rw [Nd.okB_some h]; simp [ownB, h1]
theorem okB_least (h : ruleOf x.kind = some r) (h1 : (x.subs.length : Int) < r.least) : x.okB inFn = false := by
 rw [Nd.okB_some h]
 have : ¬ r.least ≤ (x.subs.length : Int) := by omega
 simp [ownB, this]
theorem okB_most (h : ruleOf x.kind = some r) (h1 : r.most < (x.subs.length : Int)) : x.okB inFn = false := by
 rw [Nd.okB_some h]
 have : ¬ (x.subs.length : Int) ≤ r.most := by omega
 simp [ownB, this]
theorem okB_neg (h : ruleOf x.kind = some r) (h1 : x.num < 0) : x.okB inFn = false := by
 rw [Nd.okB_some h]
 have : ¬ 0 ≤ x.num := by omega
 simp [ownB, this]
theorem okB_num (h : ruleOf x.kind = some r) (h1 : ¬ x.num = 0) (h2 : ¬ x.kind = 1) : x.okB inFn = false := by rw [Nd.okB_some h]; simp [ownB, h1, h2]
theorem okB_pars (h : ruleOf x.kind = some r) (h1 : r.fn = false) (h2 : 0 < x.params.length) : x.okB inFn = false := by
 rw [Nd.okB_some h]
 have : ¬ x.params.length = 0 := by omega
 simp [ownB, h1]
 intros
 simp_all
theorem okB_body (h : ruleOf x.kind = some r) (h1 : r.body = false) (h2 : 0 < x.body.length) : x.okB inFn = false := by
 rw [Nd.okB_some h]
 simp [ownB, h1]
 intros
 simp_all
theorem okB_els (h : ruleOf x.kind = some r) (h1 : r.other = false) (h2 : 0 < x.els.length) : x.okB inFn = false := by
 rw [Nd.okB_some h]
 simp [ownB, h1]
 intros
 simp_all
theorem okB_in (h : ruleOf x.kind = some r) (h1 : r.fn = true) (h2 : inFn = true) : x.okB inFn = false := by rw [Nd.okB_some h]; simp [ownB, h1, h2]
theorem okB_par (h : ruleOf x.kind = some r) (h1 : r.fn = true) (h2 : paramsB x.params = false) : x.okB inFn = false := by rw [Nd.okB_some h]; simp [ownB, h1, h2]
theorem okB_own (h : ruleOf x.kind = some r) (h1 : fitsB r.text x.text = true) (h2 : ¬ (x.subs.length : Int) < r.least) (h3 : ¬ r.most < (x.subs.length : Int)) (h4 : ¬ x.num < 0) (h5 : x.num = 0 ∨ x.kind = 1) (h6 : r.fn = true ∨ ¬ 0 < x.params.length)
  (h7 : r.body = true ∨ ¬ 0 < x.body.length) (h8 : r.other = true ∨ ¬ 0 < x.els.length) (h9 : r.fn = false ∨ inFn = false ∧ paramsB x.params = true) :
  x.okB inFn = (lsB true inFn x.subs && (lsB false (inFn || r.fn) x.body && lsB false inFn x.els)) := by
 rw [Nd.okB_some h]
 have a2 : r.least ≤ (x.subs.length : Int) := by omega
 have a3 : (x.subs.length : Int) ≤ r.most := by omega
 have a4 : 0 ≤ x.num := by omega
 have a6 : (r.fn || decide (x.params.length = 0)) = true := by
  rcases h6 with h6 | h6
  ·simp [h6]
  ·have : x.params.length = 0 := by omega
   rw [decide_eq_true this, Bool.or_true]
 have a7 : (r.body || decide (x.body.length = 0)) = true := by
  rcases h7 with h7 | h7
  ·simp [h7]
  ·have : x.body.length = 0 := by omega
   rw [decide_eq_true this, Bool.or_true]
 have a8 : (r.other || decide (x.els.length = 0)) = true := by
  rcases h8 with h8 | h8
  ·simp [h8]
  ·have : x.els.length = 0 := by omega
   rw [decide_eq_true this, Bool.or_true]
 have a5 : (decide (x.num = 0) || decide (x.kind = 1)) = true := by rcases h5 with h5 | h5 <;> simp [h5]
 have a9 : (!r.fn || (!inFn && paramsB x.params)) = true := by
  rcases h9 with h9 | ⟨h9, h10⟩
  ·simp [h9]
  ·simp [h9, h10]
 unfold ownB
 rw [h1, a5, a6, a7, a8, a9, decide_eq_true a2, decide_eq_true a3, decide_eq_true a4]
 rfl
end
def ListsOk (ex : Bool) (n : Nat) : Prop := ∀ (S : Nat → Prop) (mb : Nat) (A : Option Addr) (c : Nat) (l : List Nd) (inFn : Bool) (w : World), LN S n w A c l → MapAt w mb encK encRul rulL → TxL l →
 Calls Tryz.prog (if ex then 205 else 116) #[.agg #[.map (some mb)], .slice A l.length c, .bool inFn] w (RetV w (.bool (lsB ex inFn l)))
set_option maxRecDepth 20000 in
set_option maxHeartbeats 6400000 in
theorem node_step (n : Nat) (hE : ListsOk true n) (hS : ListsOk false n) (S : Nat → Prop) (mb b o : Nat) (x : Nd) (hd : HdN) (inFn : Bool) (w : World) (hN : NdAt w b o x hd) (hH : NdH S n w hd x) (hm : MapAt w mb encK encRul rulL) (htx : x.tx) :
  Calls Tryz.prog 172 #[.agg #[.map (some mb)], .pointer (some ⟨b, o, none⟩), .bool inFn] w (RetV w (.bool (x.okB inFn))) := by
 obtain ⟨V, hV⟩ : ∃ V, V = w.alloc (.cells #[.map (some mb)] 152) := ⟨_, rfl⟩
 have hf0 : Fr [] w V := by rw [hV]; exact frx
 have hC0 : Blk V w.heap.size 152 #[.map (some mb)] := by rw [hV]; exact Blk.new _ _ _ _ rfl
 have hmV := hm.fr0 hf0
 have hNV := hN.fr0 hf0
 have q0 : V.cell? ⟨w.heap.size, 0, none⟩ = some (.map (some mb)) := hC0.cell 0 rfl
 have c0 := hNV.c0
 have zr : ∀ W : World, (zeroValue 224).run Tryz.prog W = .ok (encRul ⟨0, 0, 0, false, false, false⟩) W := fun W => by rfl
 obtain ⟨r, ok, hro⟩ : ∃ (r : Rul) (ok : Bool), (ruleOf x.kind).getD ⟨0, 0, 0, false, false, false⟩ = r ∧ (ruleOf x.kind).isSome = ok := ⟨_, _, rfl, rfl⟩
 have hlook := fun W (h : MapAt W mb encK encRul rulL) => run_lookup_at keyK8 Tryz.underlying149 (⟨0, 0, 0, false, false, false⟩ : Rul) (zr W) h x.kind
 have hl1 := hlook V.drew (hmV.fr0 ((Fr.refl _ _).drew))
 have hl2 := hlook (V.alloc (.cells #[.int .i64 0, .int .i64 0, .int .i64 0, .bool false, .bool false, .bool false] 224)).drew (hmV.fr0 (((Fr.refl _ _).alloc _).drew))
 rw [show rulL.lookup x.kind = ruleOf x.kind from rfl, hro.1, hro.2] at hl1 hl2
 have hfZ : Fr [] V (V.alloc (.cells #[.int .i64 0, .int .i64 0, .int .i64 0, .bool false, .bool false, .bool false] 224)) := (Fr.refl _ _).alloc _
 have q0z := hfZ.cell q0 (by simp)
 have c0z := hfZ.cell c0 (by simp)
 clear hlook hfZ zr
 have HV := Lib.hid hV.symm
 clear hV
 obtain ⟨VR, hVR⟩ : ∃ VR, VR = V.alloc (.cells #[.int .i64 r.text, .int .i64 r.least, .int .i64 r.most, .bool r.body, .bool r.other, .bool r.fn] 224) := ⟨_, rfl⟩
 have hfR : Fr [] V VR := by rw [hVR]; exact frx
 have hBR : Blk VR V.heap.size 224 #[.int .i64 r.text, .int .i64 r.least, .int .i64 r.most, .bool r.body, .bool r.other, .bool r.fn] := by rw [hVR]; exact Blk.new _ _ _ _ rfl
 have HR := Lib.hid hVR.symm
 clear hVR
 go_enter Tryz.func172, Tryz.ntmps172
 go_upto_region 1 with fail
 rw [HV.out]
 go_cut [7, 8] from 9 (fun p k wx => p = .pointer (some ⟨V.heap.size, 0, none⟩) ∧ k = .bool ok ∧ wx = VR.drew)
 case first =>
  go_region
  all_goals (go_wp2_with fail; go_meet; exact ⟨rfl, rfl, by rw [HR.out]⟩)
 case rest =>
 obtain ⟨rfl, rfl, rfl⟩ := hcut
 clear q0 c0 q0z c0z hl1 hl2
 have hF := hf0.trans hfR
 have hN := hN.fr0 hF
 have hC := hC0.fr hfR (by simp)
 have hm := hm.fr0 hF
 have k0 : VR.cell? ⟨V.heap.size, 0, none⟩ = some (.int .i64 r.text) := hBR.cell 0 rfl
 have k1 : VR.cell? ⟨V.heap.size, 1, none⟩ = some (.int .i64 r.least) := hBR.cell 1 rfl
 have k2 : VR.cell? ⟨V.heap.size, 2, none⟩ = some (.int .i64 r.most) := hBR.cell 2 rfl
 have k3 : VR.cell? ⟨V.heap.size, 3, none⟩ = some (.bool r.body) := hBR.cell 3 rfl
 have k4 : VR.cell? ⟨V.heap.size, 4, none⟩ = some (.bool r.other) := hBR.cell 4 rfl
 have k5 : VR.cell? ⟨V.heap.size, 5, none⟩ = some (.bool r.fn) := hBR.cell 5 rfl
 have m0 : VR.cell? ⟨w.heap.size, 0, none⟩ = some (.map (some mb)) := hC.cell 0 rfl
 obtain ⟨c0, c1, c2, c3, c4, c5, c6⟩ := hN
 obtain ⟨bf, hbf⟩ : ∃ b, fitsB r.text x.text = b := ⟨_, rfl⟩
 have HBF := Lib.hid hbf
 have HFIT : Hid (∀ W, Calls Tryz.prog 204 #[.int .i64 r.text, .string x.text] W (RetV W (.bool bf))) := Lib.hid (fun W => hbf ▸ fits_any r.text x.text W ((Nd.tx_iff x).1 htx).1.1)
 clear hbf
 go_upto_region 2 with fail
 go_cut [19] from 20 (fun s wx => s = .bool (!(ok && bf)) ∧ Fr [] VR wx)
 case first =>
  cases ok
  ·go_quiet (fail)
   go_wp2_with fail
   go_meet
   exact ⟨rfl, frx⟩
  ·go_region_held3 (fun w' => w'.cell? ⟨V.heap.size, 0, none⟩ = some (.int .i64 r.text) ∧ w'.cell? ⟨b, o + 1, none⟩ = some (.string x.text))
    (first
     | (go_keep; done)
     | with_reducible exact ⟨hFb.cell k0 (by simp), hFb.cell c1 (by simp)⟩)
    (first
     | (go_at_call 204; refine (HFIT.out _).mono ?_; rintro e wa ⟨rfl, hfa⟩; have hFb : Fr [] VR wa := (Fr.trans frx hfa)))
   go_wp2_with fail
   go_meet
   exact ⟨rfl, hFb⟩
 case rest =>
 obtain ⟨rfl, hfc⟩ := hcut
 cases ok
 ·have HO := Lib.hid (Nd.okB_none (x := x) (inFn := inFn) (by simpa using hro.2))
  go_wp2
  go_ret
  exact ⟨ret_bool HO.out.symm, hF.trans hfc⟩
 have hru : ruleOf x.kind = some r := by
  cases h : ruleOf x.kind with
  | none => rw [h] at hro; simp at hro
  | some q => rw [h] at hro; have := hro.1; simp at this; rw [this]
 have HRU := Lib.hid hru
 clear hru hro
 cases bf
 ·have HO := Lib.hid (okB_fits (inFn := inFn) HRU.out HBF.out)
  go_wp2
  go_ret
  exact ⟨ret_bool HO.out.symm, hF.trans hfc⟩
 obtain ⟨V2, rfl⟩ : ∃ V2, V2 = wc := ⟨wc, rfl⟩
 have hF := hF.trans hfc
 have hm := hm.fr0 hfc
 have k1 := hfc.cell k1 (by simp)
 have k2 := hfc.cell k2 (by simp)
 have k3 := hfc.cell k3 (by simp)
 have k4 := hfc.cell k4 (by simp)
 have k5 := hfc.cell k5 (by simp)
 have m0 := hfc.cell m0 (by simp)
 have c0 := hfc.cell c0 (by simp)
 have c2 := hfc.cell c2 (by simp)
 have c3 := hfc.cell c3 (by simp)
 have c4 := hfc.cell c4 (by simp)
 have c5 := hfc.cell c5 (by simp)
 have c6 := hfc.cell c6 (by simp)
 clear hfc
 obtain ⟨d3, hd3⟩ : ∃ d, decide ((x.subs.length : Int) < r.least) = d := ⟨_, rfl⟩
 have Hd3 := Lib.hid hd3
 clear hd3
 go_upto_region 3 with fail
 go_cut [19] from 20 (fun s wx => s = .bool d3 ∧ Fr [] V2 wx)
 case first =>
  go_quiet (fail)
  go_wp2_with fail
  go_meet
  exact ⟨congrArg Value.bool Hd3.out, frx⟩
 case rest =>
 obtain ⟨rfl, hfc⟩ := hcut
 cases d3
 case true =>
  have HO := Lib.hid (okB_least (inFn := inFn) HRU.out (of_decide_eq_true Hd3.out))
  go_wp2
  go_ret
  exact ⟨ret_bool HO.out.symm, hF.trans hfc⟩
 have Nd3 := Lib.hid (of_decide_eq_false Hd3.out)
 have hF := hF.trans hfc
 have hm := hm.fr0 hfc
 have k1 := hfc.cell k1 (by simp)
 have k2 := hfc.cell k2 (by simp)
 have k3 := hfc.cell k3 (by simp)
 have k4 := hfc.cell k4 (by simp)
 have k5 := hfc.cell k5 (by simp)
 have m0 := hfc.cell m0 (by simp)
 have c0 := hfc.cell c0 (by simp)
 have c2 := hfc.cell c2 (by simp)
 have c3 := hfc.cell c3 (by simp)
 have c4 := hfc.cell c4 (by simp)
 have c5 := hfc.cell c5 (by simp)
 have c6 := hfc.cell c6 (by simp)
 clear hfc
 obtain ⟨V2, rfl⟩ : ∃ V2, V2 = wc := ⟨wc, rfl⟩
 obtain ⟨d4, hd4⟩ : ∃ d, decide (r.most < (x.subs.length : Int)) = d := ⟨_, rfl⟩
 have Hd4 := Lib.hid hd4
 clear hd4
 go_upto_region 4 with fail
 go_cut [19] from 20 (fun s wx => s = .bool d4 ∧ Fr [] V2 wx)
 case first =>
  go_quiet (fail)
  go_wp2_with fail
  go_meet
  exact ⟨congrArg Value.bool Hd4.out, frx⟩
 case rest =>
 obtain ⟨rfl, hfc⟩ := hcut
 cases d4
 case true =>
  have HO := Lib.hid (okB_most (inFn := inFn) HRU.out (of_decide_eq_true Hd4.out))
  go_wp2
  go_ret
  exact ⟨ret_bool HO.out.symm, hF.trans hfc⟩
 have Nd4 := Lib.hid (of_decide_eq_false Hd4.out)
 have hF := hF.trans hfc
 have hm := hm.fr0 hfc
 have k1 := hfc.cell k1 (by simp)
 have k2 := hfc.cell k2 (by simp)
 have k3 := hfc.cell k3 (by simp)
 have k4 := hfc.cell k4 (by simp)
 have k5 := hfc.cell k5 (by simp)
 have m0 := hfc.cell m0 (by simp)
 have c0 := hfc.cell c0 (by simp)
 have c2 := hfc.cell c2 (by simp)
 have c3 := hfc.cell c3 (by simp)
 have c4 := hfc.cell c4 (by simp)
 have c5 := hfc.cell c5 (by simp)
 have c6 := hfc.cell c6 (by simp)
 clear hfc
 obtain ⟨V2, rfl⟩ : ∃ V2, V2 = wc := ⟨wc, rfl⟩
 obtain ⟨d6, hd6⟩ : ∃ d, decide (x.num < 0 ∨ (¬ x.num = 0 ∧ ¬ x.kind = 1)) = d := ⟨_, rfl⟩
 have Hd6 := Lib.hid hd6
 clear hd6
 go_upto_region 6 with fail
 go_cut [48] from 49 (fun s wx => s = .bool d6 ∧ Fr [] V2 wx)
 case first =>
  by_cases n1 : x.num < 0
  ·have e1 : decide (x.num < 0) = true := by simpa using n1
   go_wp2_with fail
   go_meet
   exact ⟨congrArg Value.bool (by rw [← Hd6.out]; symm; first | exact decide_eq_true (by omega) | exact decide_eq_false (by omega)), frx⟩
  have e1 : decide (x.num < 0) = false := by simpa using n1
  by_cases n2 : x.num = 0
  ·have e2 : (x.num != 0) = false := by simpa using n2
   go_wp2_with fail
   go_meet
   exact ⟨congrArg Value.bool (by rw [← Hd6.out]; symm; first | exact decide_eq_true (by omega) | exact decide_eq_false (by omega)), frx⟩
  have e2 : (x.num != 0) = true := by simpa using n2
  by_cases n3 : x.kind = 1
  ·have e3 : (x.kind != 1) = false := by simpa using n3
   go_wp2_with fail
   go_meet
   exact ⟨congrArg Value.bool (by rw [← Hd6.out]; symm; first | exact decide_eq_true (by omega) | exact decide_eq_false (by omega)), frx⟩
  have e3 : (x.kind != 1) = true := by simpa using n3
  go_wp2_with fail
  go_meet
  exact ⟨congrArg Value.bool (by rw [← Hd6.out]; symm; first | exact decide_eq_true (by omega) | exact decide_eq_false (by omega)), frx⟩
 case rest =>
 obtain ⟨rfl, hfc⟩ := hcut
 cases d6
 case true =>
  have HO := Lib.hid ((of_decide_eq_true Hd6.out).elim (fun h => okB_neg (inFn := inFn) HRU.out h) (fun h => okB_num (inFn := inFn) HRU.out h.1 h.2))
  go_wp2
  go_ret
  exact ⟨ret_bool HO.out.symm, hF.trans hfc⟩
 have Nd6 := Lib.hid (of_decide_eq_false Hd6.out)
 have hF := hF.trans hfc
 have hm := hm.fr0 hfc
 have k1 := hfc.cell k1 (by simp)
 have k2 := hfc.cell k2 (by simp)
 have k3 := hfc.cell k3 (by simp)
 have k4 := hfc.cell k4 (by simp)
 have k5 := hfc.cell k5 (by simp)
 have m0 := hfc.cell m0 (by simp)
 have c0 := hfc.cell c0 (by simp)
 have c2 := hfc.cell c2 (by simp)
 have c3 := hfc.cell c3 (by simp)
 have c4 := hfc.cell c4 (by simp)
 have c5 := hfc.cell c5 (by simp)
 have c6 := hfc.cell c6 (by simp)
 clear hfc
 obtain ⟨V2, rfl⟩ : ∃ V2, V2 = wc := ⟨wc, rfl⟩
 obtain ⟨d8, hd8⟩ : ∃ d, decide (r.fn = false ∧ 0 < x.params.length) = d := ⟨_, rfl⟩
 have Hd8 := Lib.hid hd8
 clear hd8
 go_upto_region 8 with fail
 go_cut [68] from 69 (fun s wx => s = .bool d8 ∧ Fr [] V2 wx)
 case first =>
  obtain ⟨q, hq⟩ : ∃ q, r.fn = q := ⟨_, rfl⟩
  rw [hq] at k5
  have HQ := Lib.hid hq
  clear hq
  cases q
  ·by_cases n1 : 0 < x.params.length
   ·have e1 : decide (0 < (x.params.length : Int)) = true := by simpa using n1
    go_wp2_with fail
    go_meet
    exact ⟨congrArg Value.bool (by rw [← Hd8.out]; exact (decide_eq_true ⟨HQ.out, n1⟩).symm), frx⟩
   ·have e1 : decide (0 < (x.params.length : Int)) = false := by simpa using n1
    go_wp2_with fail
    go_meet
    exact ⟨congrArg Value.bool (by rw [← Hd8.out]; exact (decide_eq_false (fun h => n1 h.2)).symm), frx⟩
  ·go_wp2_with fail
   go_meet
   exact ⟨congrArg Value.bool (by rw [← Hd8.out]; exact (decide_eq_false (fun h => by rw [HQ.out] at h; cases h.1)).symm), frx⟩
 case rest =>
 obtain ⟨rfl, hfc⟩ := hcut
 cases d8
 case true =>
  have HO := Lib.hid (okB_pars (inFn := inFn) HRU.out (of_decide_eq_true Hd8.out).1 (of_decide_eq_true Hd8.out).2)
  go_wp2
  go_ret
  exact ⟨ret_bool HO.out.symm, hF.trans hfc⟩
 have Nd8 := Lib.hid (of_decide_eq_false Hd8.out)
 have hF := hF.trans hfc
 have hm := hm.fr0 hfc
 have k1 := hfc.cell k1 (by simp)
 have k2 := hfc.cell k2 (by simp)
 have k3 := hfc.cell k3 (by simp)
 have k4 := hfc.cell k4 (by simp)
 have k5 := hfc.cell k5 (by simp)
 have m0 := hfc.cell m0 (by simp)
 have c0 := hfc.cell c0 (by simp)
 have c2 := hfc.cell c2 (by simp)
 have c3 := hfc.cell c3 (by simp)
 have c4 := hfc.cell c4 (by simp)
 have c5 := hfc.cell c5 (by simp)
 have c6 := hfc.cell c6 (by simp)
 clear hfc
 obtain ⟨V2, rfl⟩ : ∃ V2, V2 = wc := ⟨wc, rfl⟩
 obtain ⟨d9, hd9⟩ : ∃ d, decide (r.body = false ∧ 0 < x.body.length) = d := ⟨_, rfl⟩
 have Hd9 := Lib.hid hd9
 clear hd9
 go_upto_region 9 with fail
 go_cut [68] from 69 (fun s wx => s = .bool d9 ∧ Fr [] V2 wx)
 case first =>
  obtain ⟨q, hq⟩ : ∃ q, r.body = q := ⟨_, rfl⟩
  rw [hq] at k3
  have HQ := Lib.hid hq
  clear hq
  cases q
  ·by_cases n1 : 0 < x.body.length
   ·have e1 : decide (0 < (x.body.length : Int)) = true := by simpa using n1
    go_wp2_with fail
    go_meet
    exact ⟨congrArg Value.bool (by rw [← Hd9.out]; exact (decide_eq_true ⟨HQ.out, n1⟩).symm), frx⟩
   ·have e1 : decide (0 < (x.body.length : Int)) = false := by simpa using n1
    go_wp2_with fail
    go_meet
    exact ⟨congrArg Value.bool (by rw [← Hd9.out]; exact (decide_eq_false (fun h => n1 h.2)).symm), frx⟩
  ·go_wp2_with fail
   go_meet
   exact ⟨congrArg Value.bool (by rw [← Hd9.out]; exact (decide_eq_false (fun h => by rw [HQ.out] at h; cases h.1)).symm), frx⟩
 case rest =>
 obtain ⟨rfl, hfc⟩ := hcut
 cases d9
 case true =>
  have HO := Lib.hid (okB_body (inFn := inFn) HRU.out (of_decide_eq_true Hd9.out).1 (of_decide_eq_true Hd9.out).2)
  go_wp2
  go_ret
  exact ⟨ret_bool HO.out.symm, hF.trans hfc⟩
 have Nd9 := Lib.hid (of_decide_eq_false Hd9.out)
 have hF := hF.trans hfc
 have hm := hm.fr0 hfc
 have k1 := hfc.cell k1 (by simp)
 have k2 := hfc.cell k2 (by simp)
 have k3 := hfc.cell k3 (by simp)
 have k4 := hfc.cell k4 (by simp)
 have k5 := hfc.cell k5 (by simp)
 have m0 := hfc.cell m0 (by simp)
 have c0 := hfc.cell c0 (by simp)
 have c2 := hfc.cell c2 (by simp)
 have c3 := hfc.cell c3 (by simp)
 have c4 := hfc.cell c4 (by simp)
 have c5 := hfc.cell c5 (by simp)
 have c6 := hfc.cell c6 (by simp)
 clear hfc
 obtain ⟨V2, rfl⟩ : ∃ V2, V2 = wc := ⟨wc, rfl⟩
 obtain ⟨d10, hd10⟩ : ∃ d, decide (r.other = false ∧ 0 < x.els.length) = d := ⟨_, rfl⟩
 have Hd10 := Lib.hid hd10
 clear hd10
 go_upto_region 10 with fail
 go_cut [68] from 69 (fun s wx => s = .bool d10 ∧ Fr [] V2 wx)
 case first =>
  obtain ⟨q, hq⟩ : ∃ q, r.other = q := ⟨_, rfl⟩
  rw [hq] at k4
  have HQ := Lib.hid hq
  clear hq
  cases q
  ·by_cases n1 : 0 < x.els.length
   ·have e1 : decide (0 < (x.els.length : Int)) = true := by simpa using n1
    go_wp2_with fail
    go_meet
    exact ⟨congrArg Value.bool (by rw [← Hd10.out]; exact (decide_eq_true ⟨HQ.out, n1⟩).symm), frx⟩
   ·have e1 : decide (0 < (x.els.length : Int)) = false := by simpa using n1
    go_wp2_with fail
    go_meet
    exact ⟨congrArg Value.bool (by rw [← Hd10.out]; exact (decide_eq_false (fun h => n1 h.2)).symm), frx⟩
  ·go_wp2_with fail
   go_meet
   exact ⟨congrArg Value.bool (by rw [← Hd10.out]; exact (decide_eq_false (fun h => by rw [HQ.out] at h; cases h.1)).symm), frx⟩
 case rest =>
 obtain ⟨rfl, hfc⟩ := hcut
 cases d10
 case true =>
  have HO := Lib.hid (okB_els (inFn := inFn) HRU.out (of_decide_eq_true Hd10.out).1 (of_decide_eq_true Hd10.out).2)
  go_wp2
  go_ret
  exact ⟨ret_bool HO.out.symm, hF.trans hfc⟩
 have Nd10 := Lib.hid (of_decide_eq_false Hd10.out)
 have hF := hF.trans hfc
 have hm := hm.fr0 hfc
 have k1 := hfc.cell k1 (by simp)
 have k2 := hfc.cell k2 (by simp)
 have k3 := hfc.cell k3 (by simp)
 have k4 := hfc.cell k4 (by simp)
 have k5 := hfc.cell k5 (by simp)
 have m0 := hfc.cell m0 (by simp)
 have c0 := hfc.cell c0 (by simp)
 have c2 := hfc.cell c2 (by simp)
 have c3 := hfc.cell c3 (by simp)
 have c4 := hfc.cell c4 (by simp)
 have c5 := hfc.cell c5 (by simp)
 have c6 := hfc.cell c6 (by simp)
 clear hfc
 obtain ⟨V2, rfl⟩ : ∃ V2, V2 = wc := ⟨wc, rfl⟩
 obtain ⟨d12, hd12⟩ : ∃ d, decide (r.fn = true ∧ (inFn = true ∨ paramsB x.params = false)) = d := ⟨_, rfl⟩
 have Hd12 := Lib.hid hd12
 clear hd12
 go_upto_region 12 with fail
 go_cut [102] from 103 (fun s wx => s = .bool d12 ∧ Fr [] V2 wx)
 case first =>
  obtain ⟨q, hq⟩ : ∃ q, r.fn = q := ⟨_, rfl⟩
  rw [hq] at k5
  have HQ := Lib.hid hq
  clear hq
  cases q
  ·go_wp2_with fail
   go_meet
   exact ⟨congrArg Value.bool (by rw [← Hd12.out]; exact (decide_eq_false (fun h => by rw [HQ.out] at h; cases h.1)).symm), frx⟩
  cases inFn
  ·obtain ⟨pp, hpp⟩ : ∃ p, paramsB x.params = p := ⟨_, rfl⟩
   have HPP := Lib.hid hpp
   have CP : Hid (∀ W, Fr [] V2 W → Calls Tryz.prog 115 #[.slice hd.Ap x.params.length hd.cp] W (RetV W (.bool pp))) := Lib.hid (fun W h => hpp ▸ params_any hd.Ap hd.cp x.params W ((hH.params.fr0 (hF.trans h)).1) ((Nd.tx_iff x).1 htx).1.2)
   clear hpp
   go_wp2_with fail
   refine (CP.out _ frx).mono ?_
   rintro e wa ⟨rfl, hfa⟩
   have hfb : Fr [] V2 wa := (Fr.trans frx hfa)
   cases pp
   ·go_wp2_with fail
    go_meet
    exact ⟨congrArg Value.bool (by rw [← Hd12.out]; exact (decide_eq_true ⟨HQ.out, .inr HPP.out⟩).symm), hfb⟩
   ·go_wp2_with fail
    go_meet
    exact ⟨congrArg Value.bool (by rw [← Hd12.out]; exact (decide_eq_false (fun h => h.2.elim (fun h => by cases h) (fun h => by rw [HPP.out] at h; cases h))).symm), hfb⟩
  ·go_wp2_with fail
   go_meet
   exact ⟨congrArg Value.bool (by rw [← Hd12.out]; exact (decide_eq_true ⟨HQ.out, .inl (by simp)⟩).symm), frx⟩
 case rest =>
 obtain ⟨rfl, hfc⟩ := hcut
 cases d12
 case true =>
  have HO := Lib.hid ((of_decide_eq_true Hd12.out).2.elim (fun h => okB_in (inFn := inFn) HRU.out (of_decide_eq_true Hd12.out).1 h) (fun h => okB_par (inFn := inFn) HRU.out (of_decide_eq_true Hd12.out).1 h))
  go_wp2
  go_ret
  exact ⟨ret_bool HO.out.symm, hF.trans hfc⟩
 have Nd12 := Lib.hid (of_decide_eq_false Hd12.out)
 have hF := hF.trans hfc
 have hm := hm.fr0 hfc
 have k1 := hfc.cell k1 (by simp)
 have k2 := hfc.cell k2 (by simp)
 have k3 := hfc.cell k3 (by simp)
 have k4 := hfc.cell k4 (by simp)
 have k5 := hfc.cell k5 (by simp)
 have m0 := hfc.cell m0 (by simp)
 have c0 := hfc.cell c0 (by simp)
 have c2 := hfc.cell c2 (by simp)
 have c3 := hfc.cell c3 (by simp)
 have c4 := hfc.cell c4 (by simp)
 have c5 := hfc.cell c5 (by simp)
 have c6 := hfc.cell c6 (by simp)
 clear hfc
 obtain ⟨V2, rfl⟩ : ∃ V2, V2 = wc := ⟨wc, rfl⟩
 have HOWN : Hid (x.okB inFn = (lsB true inFn x.subs && (lsB false (inFn || r.fn) x.body && lsB false inFn x.els))) := Lib.hid (by
  have n6 := Nd6.out
  have n8 := Nd8.out
  have n9 := Nd9.out
  have n10 := Nd10.out
  have n12 := Nd12.out
  refine okB_own HRU.out HBF.out Nd3.out Nd4.out (fun h => n6 (.inl h)) ?_ ?_ ?_ ?_ ?_
  ·rcases Classical.em (x.num = 0) with h | h
   ·exact .inl h
   ·exact .inr (Classical.byContradiction fun h1 => n6 (.inr ⟨h, h1⟩))
  ·cases h : r.fn
   ·exact .inr fun h1 => n8 ⟨h, h1⟩
   ·exact .inl rfl
  ·cases h : r.body
   ·exact .inr fun h1 => n9 ⟨h, h1⟩
   ·exact .inl rfl
  ·cases h : r.other
   ·exact .inr fun h1 => n10 ⟨h, h1⟩
   ·exact .inl rfl
  ·cases h : r.fn
   ·exact .inl rfl
   ·refine .inr ⟨?_, ?_⟩
    ·cases h2 : inFn
     ·rfl
     ·exact absurd ⟨h, .inl h2⟩ n12
    ·cases h2 : paramsB x.params
     ·exact absurd ⟨h, .inr h2⟩ n12
     ·rfl)
 go_upto_region 14 with fail
 obtain ⟨e1, he1⟩ : ∃ e, lsB true inFn x.subs = e := ⟨_, rfl⟩
 obtain ⟨e2, he2⟩ : ∃ e, lsB false (inFn || r.fn) x.body = e := ⟨_, rfl⟩
 obtain ⟨e3, he3⟩ : ∃ e, lsB false inFn x.els = e := ⟨_, rfl⟩
 have HX : Hid (x.okB inFn = (e1 && (e2 && e3))) := by
  show _ = _
  rw [HOWN.out, he1, he2, he3]
 have CE : Hid (∀ W, Fr [] V2 W → Calls Tryz.prog 205 #[.agg #[.map (some mb)], .slice hd.As x.subs.length hd.cs, .bool inFn] W (RetV W (.bool e1))) := Lib.hid (fun W h => he1 ▸ hE S mb hd.As hd.cs x.subs inFn W (hH.subs.fr0 (hF.trans h)) (hm.fr0 h) ((Nd.tx_iff x).1 htx).2.1)
 have CB : Hid (∀ W, Fr [] V2 W → Calls Tryz.prog 116 #[.agg #[.map (some mb)], .slice hd.Ab x.body.length hd.cb, .bool (inFn || r.fn)] W (RetV W (.bool e2))) := Lib.hid (fun W h => he2 ▸ hS S mb hd.Ab hd.cb x.body (inFn || r.fn) W (hH.body.fr0 (hF.trans h)) (hm.fr0 h) ((Nd.tx_iff x).1 htx).2.2.1)
 have CX : Hid (∀ W, Fr [] V2 W → Calls Tryz.prog 116 #[.agg #[.map (some mb)], .slice hd.Ae x.els.length hd.ce, .bool inFn] W (RetV W (.bool e3))) := Lib.hid (fun W h => he3 ▸ hS S mb hd.Ae hd.ce x.els inFn W (hH.els.fr0 (hF.trans h)) (hm.fr0 h) ((Nd.tx_iff x).1 htx).2.2.2)
 clear he1 he2 he3 hE hS
 have cE := fun d os => Calls.regrown_of ((CE.out _ (Fr.of_below (below_regrown V2 d os))).mono fun e w' h => ⟨h.1, h.2.below⟩)
 have cB := fun d os => Calls.regrown_of ((CB.out _ (Fr.of_below (below_regrown V2 d os))).mono fun e w' h => ⟨h.1, h.2.below⟩)
 have cX := fun d os => Calls.regrown_of ((CX.out _ (Fr.of_below (below_regrown V2 d os))).mono fun e w' h => ⟨h.1, h.2.below⟩)
 have m0 := fun d os => cell_regrown m0 d os
 have c3 := fun d os => cell_regrown c3 d os
 have c5 := fun d os => cell_regrown c5 d os
 have c6 := fun d os => cell_regrown c6 d os
 obtain ⟨q, hq⟩ : ∃ q, r.fn = q := ⟨_, rfl⟩
 rw [hq] at k5 cB
 have k5 := fun d os => cell_regrown k5 d os
 clear hq hBR hC0 hmV hNV hm k1 k2 k3 k4 c0 c2 c4 HV HR HBF HRU HOWN hC hN hH CE CB CX
 cases e1
 ·skip
  refine wp_region_quiet_below (by kernel_rfl) (by kernel_rfl) ?_
  repeat (go_big_quiet_step (first | with_reducible exact cE _ _ | with_reducible exact cB _ _ | with_reducible exact cX _ _))
  refine wpQuiet_nil ?_
  intro _ hw
  obtain ⟨⟨dq, osq⟩, hw2⟩ := hw
  subst hw2
  have hQ : Fr [] V2 (grow (redrawn V2 dq) osq) := Fr.of_below (below_regrown V2 dq osq)
  obtain ⟨VQ, hVQ⟩ : ∃ X, X = grow (redrawn V2 dq) osq := ⟨_, rfl⟩
  rw [← hVQ] at hQ ⊢
  clear hVQ dq osq
  go_wp2
  go_ret
  exact ⟨ret_bool HX.out.symm, hF.trans hQ⟩
 cases inFn <;> cases e2
 all_goals (
  simp only [Bool.false_or, Bool.true_or] at cB
  refine wp_region_quiet_below (by kernel_rfl) (by kernel_rfl) ?_
  repeat (go_big_quiet_step (first | with_reducible exact cE _ _ | with_reducible exact cB _ _ | with_reducible exact cX _ _))
  refine wpQuiet_nil ?_
  intro _ hw
  obtain ⟨⟨dq, osq⟩, hw2⟩ := hw
  subst hw2
  have hQ : Fr [] V2 (grow (redrawn V2 dq) osq) := Fr.of_below (below_regrown V2 dq osq)
  obtain ⟨VQ, hVQ⟩ : ∃ X, X = grow (redrawn V2 dq) osq := ⟨_, rfl⟩
  rw [← hVQ] at hQ ⊢
  clear hVQ dq osq
  go_wp2
  go_ret
  exact ⟨ret_bool HX.out.symm, hF.trans hQ⟩)
end

/- Nodes, Shape of the program. -/
section
open Go.RowKit Go.Sort
set_option linter.unusedSimpArgs false
theorem lists_ok : ∀ n, ListsOk true n ∧ ListsOk false n
  | 0 => ⟨fun S mb A c l inFn w h => absurd h id, fun S mb A c l inFn w h => absurd h id⟩
  | n + 1 => by
    obtain ⟨h1, h2⟩ := lists_ok n
    have hn : NodeOk n := fun S mb b o x hd inFn w hN hH hm ht => node_step n h1 h2 S mb b o x hd inFn w hN hH hm ht
    exact ⟨fun S mb A c l inFn w hl hm hs => expressions_step n hn S mb A c l inFn w hl hm hs, fun S mb A c l inFn w hl hm hs => statements_step n hn S mb A c l inFn w hl hm hs⟩
def TxF (fs : List Fu) : Prop := ∀ f ∈ fs, f.name.size ≤ 9223372036854775807 ∧ (∀ s ∈ f.params, s.size ≤ 9223372036854775807) ∧ TxL f.body
set_option maxRecDepth 20000 in
set_option maxHeartbeats 1600000 in
theorem Nodes_any (A : Option Addr) (c : Nat) (fs : List Fu) (S : Nat → Prop) (n : Nat) (w : World) (h : RF S n w A c fs) (hb : cntF fs ≤ 1000000000) :
  Calls Tryz.prog 48 #[.agg #[.slice A fs.length c]] w (RetV w (.tuple #[.int .i64 (cntF fs : Nat), .int .i64 (depF fs : Nat)])) := by
 have hl1 := h.bound
 have hdl := depF_le fs
 obtain ⟨W, hW⟩ : ∃ W, W = w.alloc (.cells #[.slice A fs.length c] 25) := ⟨_, rfl⟩
 have hf0 : Fr [] w W := by rw [hW]; exact (Fr.refl _ _).alloc _
 have hB : Blk W w.heap.size 25 #[.slice A fs.length c] := by rw [hW]; exact Blk.new _ _ _ _ rfl
 have q0 : W.cell? ⟨w.heap.size, 0, none⟩ = some (.slice A fs.length c) := hB.cell 0 rfl
 have HW := Lib.hid hW.symm
 clear hW
 go_enter Tryz.func48, Tryz.ntmps48
 go_upto_region 1 with fail
 rw [HW.out]
 go_wp2
 go_loopw [2, 3, 10] (fun a d i wr => ∃ k : Nat, k ≤ fs.length ∧ i = .int .i64 k ∧ a = .int .i64 (cntF (fs.take k) : Nat) ∧ d = .int .i64 (depF (fs.take k) : Nat) ∧ Fr [] W wr) (fun _ _ i _ => fs.length - (intOf i).toNat)
 case atStart => exact ⟨0, Nat.zero_le _, rfl, rfl, rfl, Fr.refl _ _⟩
 case round =>
  obtain ⟨k, hk, rfl, rfl, rfl, hf⟩ := hrel
  have q0 := hf.cell q0 (by simp)
  by_cases hlt : k < fs.length
  ·obtain ⟨b, off, f, Ap, cp, Ab, cb, rfl, hx, f0, f1, f2, hP, hL, _⟩ := h.at_ hlt
   have c2 := (hf0.trans hf).cell f2 (by simp)
   have HC := Lib.hid (cntF_take hx)
   have HD := Lib.hid (depF_take hx)
   have hb2 := cntF_take_le fs (k + 1)
   rw [HC.out] at hb2
   have hb3 := depF_le (fs.take k)
   have hd1 := depL_le f.body
   generalize cntF (fs.take k) = s0 at *
   generalize depF (fs.take k) = d0 at *
   go_wp2_with fail
   refine (count_any n S Ab cb f.body _ (hL.fr0 (hf0.trans hf)) (by omega)).mono ?_
   rintro e w3 ⟨rfl, hf3⟩
   generalize cntL f.body = s1 at *
   generalize depL f.body = d1 at *
   go_wp2
   go_roundw
   case rel => exact ⟨k + 1, by omega, by go_num, by rw [HC.out]; go_num, by rw [HD.out]; congr 1; split <;> omega, hf.trans hf3⟩
   case measure => simp [intOf]; omega
  ·rw [List.take_of_length_le (by omega)]
   go_wp2
   go_ret2
   exact ⟨rfl, hf0.trans hf⟩
theorem shape_limit {fs : List Fu} (h1 : ¬ 16 < fs.length) (h2 : 1024 < cntF fs ∨ 24 < depF fs) : shapeP fs = 3 := by unfold shapeP; rw [if_neg h1, if_pos h2]
theorem shape_on {fs : List Fu} (h1 : ¬ 16 < fs.length) (h2 : ¬ (1024 < cntF fs ∨ 24 < depF fs)) : shapeP fs = if fs.all fuB then 0 else 1 := by unfold shapeP; rw [if_neg h1, if_neg h2]
theorem all_bad {fs : List Fu} {k : Nat} {f : Fu} (hx : Hid (fs[k]? = some f)) (h : fuB f = false) : fs.all fuB = false := by
 rw [List.all_eq_false]
 exact ⟨f, List.mem_of_getElem? hx.out, by simp [h]⟩
theorem all_on {fs : List Fu} {k : Nat} {f : Fu} (hx : Hid (fs[k]? = some f)) (h : fuB f = true) (ha : Hid ((fs.take k).all fuB = true)) : Hid ((fs.take (k + 1)).all fuB = true) := by
 show _ = _
 rw [take_at hx, List.all_append, ha.out]
 simp [h]
set_option maxRecDepth 20000 in
set_option maxHeartbeats 3200000 in
theorem Shape_any (A : Option Addr) (c : Nat) (fs : List Fu) (S : Nat → Prop) (n : Nat) (w : World) (h : RF S n w A c fs) (hb : cntF fs ≤ 1000000000) (ht : TxF fs) :
  Calls Tryz.prog 46 #[.agg #[.slice A fs.length c]] w (RetV w (.int .i64 (shapeP fs))) := by
 have hl1 := h.bound
 have hdl := depF_le fs
 obtain ⟨W, hW⟩ : ∃ W, W = w.alloc (.cells #[.slice A fs.length c] 25) := ⟨_, rfl⟩
 have hf0 : Fr [] w W := by rw [hW]; exact (Fr.refl _ _).alloc _
 have hB : Blk W w.heap.size 25 #[.slice A fs.length c] := by rw [hW]; exact Blk.new _ _ _ _ rfl
 have q0 : W.cell? ⟨w.heap.size, 0, none⟩ = some (.slice A fs.length c) := hB.cell 0 rfl
 have HW := Lib.hid hW.symm
 clear hW
 by_cases h1 : 16 < fs.length
 ·have HS : Hid (shapeP fs = 3) := Lib.hid (by unfold shapeP; rw [if_pos h1])
  go_enter Tryz.func46, Tryz.ntmps46
  go_upto_region 1 with fail
  rw [HW.out]
  go_wp2
  go_ret
  rw [HS.out]
  exact ⟨rfl, hf0⟩
 have HN := Lib.hid (Nodes_any A c fs S n W (h.fr0 hf0) hb)
 by_cases h2 : 1024 < cntF fs ∨ 24 < depF fs
 ·have HS := Lib.hid (shape_limit h1 h2)
  generalize cntF fs = nn at *
  generalize depF fs = dd at *
  go_enter Tryz.func46, Tryz.ntmps46
  go_upto_region 1 with fail
  rw [HW.out]
  go_wp2_with fail
  refine HN.out.mono ?_
  rintro e w1 ⟨rfl, hf1⟩
  by_cases h3 : 1024 < nn
  ·go_wp2_with fail
   go_ret
   rw [HS.out]
   exact ⟨rfl, hf0.trans hf1⟩
  ·have h4 : 24 < dd := h2.resolve_left h3
   go_wp2_with fail
   go_ret
   rw [HS.out]
   exact ⟨rfl, hf0.trans hf1⟩
 have HS := Lib.hid (shape_on h1 h2)
 have h3 : ¬ 1024 < cntF fs := fun h => h2 (.inl h)
 have h4 : ¬ 24 < depF fs := fun h => h2 (.inr h)
 clear h2
 have HT := Lib.hid ht
 clear ht
 generalize cntF fs = nn at *
 generalize depF fs = dd at *
 go_enter Tryz.func46, Tryz.ntmps46
 go_upto_region 1 with fail
 rw [HW.out]
 go_wp2_with fail
 refine HN.out.mono ?_
 rintro e w1 ⟨rfl, hf1⟩
 clear HN
 have q1 := hf1.cell q0 (by simp)
 go_wp2_with fail
 refine (rules_any _).mono ?_
 rintro e w2 ⟨mb, rfl, hf2, hmb, hM⟩
 have hf2 : Fr [] w1 w2 := Fr.trans frx hf2
 have q2 := hf2.cell q1 (by simp)
 obtain ⟨V, hV⟩ : ∃ V, V = w2.alloc (.cells #[.map (some mb)] 152) := ⟨_, rfl⟩
 have hf3 : Fr [] w2 V := by rw [hV]; exact (Fr.refl _ _).alloc _
 have hC : Blk V w2.heap.size 152 #[.map (some mb)] := by rw [hV]; exact Blk.new _ _ _ _ rfl
 have m0 : V.cell? ⟨w2.heap.size, 0, none⟩ = some (.map (some mb)) := hC.cell 0 rfl
 have hMV := hM.fr0 hf3
 have q3 := hf3.cell q2 (by simp)
 have hFV := ((hf0.trans hf1).trans hf2).trans hf3
 have HV := Lib.hid hV.symm
 clear hV q0 q1 q2 hf1 hf2 hf3 hC hM hmb
 go_upto_region 7 with fail
 rw [HV.out]
 go_wp2_with fail
 go_loopw [28] (fun i wr => ∃ k : Nat, k ≤ fs.length ∧ i = .int .i64 k ∧ Hid ((fs.take k).all fuB = true) ∧ Fr [] V wr) (fun i _ => fs.length - (intOf i).toNat)
 case atStart => exact ⟨0, Nat.zero_le _, rfl, rfl, Fr.refl _ _⟩
 case round =>
  obtain ⟨k, hk, rfl, ha, hf⟩ := hrel
  have q3 := hf.cell q3 (by simp)
  have m0 := hf.cell m0 (by simp)
  by_cases hlt : k < fs.length
  ·obtain ⟨b, off, f, Ap, cp, Ab, cb, rfl, hx, f0, f1, f2, hP, hL, _⟩ := h.at_ hlt
   have hF := hFV.trans hf
   have f0 := hF.cell f0 (by simp)
   have f1 := hF.cell f1 (by simp)
   have f2 := hF.cell f2 (by simp)
   obtain ⟨t1, t2, t3⟩ := HT.out f (List.mem_of_getElem? hx.out)
   have HFU : Hid (fuB f = (nameOk f.name && paramsB f.params && lsB false false f.body)) := rfl
   obtain ⟨V2, rfl⟩ : ∃ V2, V2 = wr := ⟨wr, rfl⟩
   have CN : Hid (∀ W, Fr [] V2 W → Calls Tryz.prog 20 #[.string f.name] W (RetV W (.bool (nameOk f.name)))) := fun W h => Name_any f.name W t1
   have CP : Hid (∀ W, Fr [] V2 W → Calls Tryz.prog 115 #[.slice Ap f.params.length cp] W (RetV W (.bool (paramsB f.params)))) := fun W h => params_any Ap cp f.params W (hP.fr0 (hF.trans h)).1 t2
   have CS : Hid (∀ W, Fr [] V2 W → Calls Tryz.prog 116 #[.agg #[.map (some mb)], .slice Ab f.body.length cb, .bool false] W (RetV W (.bool (lsB false false f.body)))) := fun W h => (lists_ok n).2 S mb Ab cb f.body false W (hL.fr0 (hF.trans h)) ((hMV.fr0 hf).fr0 h) t3
   generalize nameOk f.name = b1 at *
   generalize paramsB f.params = b2 at *
   generalize lsB false false f.body = b3 at *
   have cN := fun d os => Calls.regrown_of ((CN.out _ (Fr.of_below (below_regrown V2 d os))).mono fun e w' h => ⟨h.1, h.2.below⟩)
   have cP := fun d os => Calls.regrown_of ((CP.out _ (Fr.of_below (below_regrown V2 d os))).mono fun e w' h => ⟨h.1, h.2.below⟩)
   have cS := fun d os => Calls.regrown_of ((CS.out _ (Fr.of_below (below_regrown V2 d os))).mono fun e w' h => ⟨h.1, h.2.below⟩)
   have f0 := fun d os => cell_regrown f0 d os
   have f1 := fun d os => cell_regrown f1 d os
   have f2 := fun d os => cell_regrown f2 d os
   have m0 := fun d os => cell_regrown m0 d os
   clear CN CP CS HT HV hP hL hMV t1 t2 t3
   cases b1
   ·have HB := Lib.hid (all_bad hx (by rw [HFU.out]; rfl))
    go_wp2_with fail
    refine wp_region_quiet_below (by kernel_rfl) (by kernel_rfl) ?_
    repeat (go_big_quiet_step (first | with_reducible exact cN _ _ | with_reducible exact cP _ _ | with_reducible exact cS _ _))
    refine wpQuiet_nil ?_
    intro _ hw
    obtain ⟨⟨dq, osq⟩, hw2⟩ := hw
    subst hw2
    have hQ : Fr [] V2 (grow (redrawn V2 dq) osq) := Fr.of_below (below_regrown V2 dq osq)
    obtain ⟨VQ, hVQ⟩ : ∃ X, X = grow (redrawn V2 dq) osq := ⟨_, rfl⟩
    rw [← hVQ] at hQ ⊢
    clear hVQ dq osq
    go_wp2
    go_ret
    rw [HS.out, HB.out]
    exact ⟨rfl, hF.trans hQ⟩
   cases b2
   ·have HB := Lib.hid (all_bad hx (by rw [HFU.out]; rfl))
    go_wp2_with fail
    refine wp_region_quiet_below (by kernel_rfl) (by kernel_rfl) ?_
    repeat (go_big_quiet_step (first | with_reducible exact cN _ _ | with_reducible exact cP _ _ | with_reducible exact cS _ _))
    refine wpQuiet_nil ?_
    intro _ hw
    obtain ⟨⟨dq, osq⟩, hw2⟩ := hw
    subst hw2
    have hQ : Fr [] V2 (grow (redrawn V2 dq) osq) := Fr.of_below (below_regrown V2 dq osq)
    obtain ⟨VQ, hVQ⟩ : ∃ X, X = grow (redrawn V2 dq) osq := ⟨_, rfl⟩
    rw [← hVQ] at hQ ⊢
    clear hVQ dq osq
    go_wp2
    go_ret
    rw [HS.out, HB.out]
    exact ⟨rfl, hF.trans hQ⟩
   cases b3
   ·have HB := Lib.hid (all_bad hx (by rw [HFU.out]; rfl))
    go_wp2_with fail
    refine wp_region_quiet_below (by kernel_rfl) (by kernel_rfl) ?_
    repeat (go_big_quiet_step (first | with_reducible exact cN _ _ | with_reducible exact cP _ _ | with_reducible exact cS _ _))
    refine wpQuiet_nil ?_
    intro _ hw
    obtain ⟨⟨dq, osq⟩, hw2⟩ := hw
    subst hw2
    have hQ : Fr [] V2 (grow (redrawn V2 dq) osq) := Fr.of_below (below_regrown V2 dq osq)
    obtain ⟨VQ, hVQ⟩ : ∃ X, X = grow (redrawn V2 dq) osq := ⟨_, rfl⟩
    rw [← hVQ] at hQ ⊢
    clear hVQ dq osq
    go_wp2
    go_ret
    rw [HS.out, HB.out]
    exact ⟨rfl, hF.trans hQ⟩
   ·have HB := all_on hx (by rw [HFU.out]; rfl) ha
    go_wp2_with fail
    refine wp_region_quiet_below (by kernel_rfl) (by kernel_rfl) ?_
    repeat (go_big_quiet_step (first | with_reducible exact cN _ _ | with_reducible exact cP _ _ | with_reducible exact cS _ _))
    refine wpQuiet_nil ?_
    intro _ hw
    obtain ⟨⟨dq, osq⟩, hw2⟩ := hw
    subst hw2
    have hQ : Fr [] V2 (grow (redrawn V2 dq) osq) := Fr.of_below (below_regrown V2 dq osq)
    obtain ⟨VQ, hVQ⟩ : ∃ X, X = grow (redrawn V2 dq) osq := ⟨_, rfl⟩
    rw [← hVQ] at hQ ⊢
    clear hVQ dq osq
    go_wp2
    go_roundw
    case rel => exact ⟨k + 1, by omega, by go_num, HB, hf.trans hQ⟩
    case measure => simp [intOf]; omega
  ·have HB : Hid (fs.all fuB = true) := by
    have := ha.out
    rw [List.take_of_length_le (by omega)] at this
    exact this
   go_wp2
   go_ret
   rw [HS.out, HB.out]
   exact ⟨rfl, hFV.trans hf⟩
end

end Go.Proofs.YtchldahkcpbgcaaGreatDoor
