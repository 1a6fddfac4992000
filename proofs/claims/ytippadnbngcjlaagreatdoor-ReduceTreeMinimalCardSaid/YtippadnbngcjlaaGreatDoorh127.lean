/- Texts of this seat, one behind the other: RunT, Cul, ICul, ICul2. -/
import Derived.Test.YtippadnbngcjlaaGreatDoorh115
import Derived.Test.YtippadnbngcjlaaGreatDoorh126
import Derived.Test.YtippadnbngcjlaaGreatDoorh121
import Derived.Recover
import Derived.WideLaws
import Derived.Test.YtippadnbngcjlaaGreatDoorh117
import Derived.Deep.LoopGhost
import Derived.Deep.RegionHeld3
namespace Go.Proofs.YtippadnbngcjlaaGreatDoor
set_option linter.unusedVariables false

/- run over trees: the search that is carried out; its deferred closure that catches a question. -/
section
open Go.RowKit
theorem RH.tight {S : Nat → Prop} {w : World} : ∀ {n m : Nat} {A : Option Addr} {c : Nat} {t : T}, t.nodes ≤ m → RH S n w A c t → RH S m w A c t
 | 0, _, _, _, _, _, h => absurd h id
 | n + 1, 0, _, _, t, hl, _ => absurd hl (by have := T.nodes_pos t; omega)
 | n + 1, m + 1, _, _, t, hl, h => RowsB.imp h (fun _ _ h => h) (fun _ _ x hx hr => RH.tight (by
   obtain ⟨r, hr, hx⟩ := hx
   obtain ⟨i, hi⟩ := List.getElem?_of_mem hr
   obtain ⟨k, hk⟩ := List.getElem?_of_mem hx
   have := nodes_below (t := t) (show Hid _ from hi) (show Hid _ from hk)
   omega) hr) (fun _ _ _ h => h)
def questionT (q : T) (A : Option Addr) (c : Nat) : PanicEntry := { v := .iface 97 (.agg #[.int .i64 q.kind, .string q.text, .slice A q.slots.length c]), recovered := false }
def CatchPostT (w : World) (b : Nat) (q : T) (A : Option Addr) (c : Nat) (older : List PanicEntry) (e : Ending) (u' : FrameMode) (w' : World) : Prop :=
 e = .returned (.tuple #[]) ∧ u' = .panicking ({ questionT q A c with recovered := true } :: older) ∧ Fr [b] w w' ∧ Blk w' b 27 (tcells q A c)
theorem run_is_nilT (v : Value) (w : World) : (binOp .eql 20 (.iface 97 v) .nilIface).run Tryz.prog w = .ok (.bool false) w :=
 run_eql_held_nil _ _ _ _ (by kernel_rfl)
theorem run_assertT (v : Value) (w : World) : (Instr.typeAssert (.iface 97 v) 20 97 true).run Tryz.prog w = .ok (.tuple #[v, .bool true]) w := by
 simp [Instr.typeAssert, run_underlying Tryz.underlying97]
theorem catch_questionT (b : Nat) (x0 x1 x2 : Value) (q : T) (A : Option Addr) (c : Nat) (older : List PanicEntry) (w : World) (hc : Blk w b 27 #[x0, x1, x2]) :
  CallsD Tryz.prog 56 #[.pointer (some ⟨b, 0, none⟩)] (.panicking (questionT q A c :: older)) w (CatchPostT w b q A c older) := by
 refine callsD_of_wpS Tryz.func56 rfl fun c₀ cs hu => ?_
 simp only [Tryz.ntmps56, List.size_toArray, List.length_cons, List.length_nil, Nat.reduceAdd, Nat.reduceSub, Array.replicate_succ, Array.replicate_zero, List.push_toArray, List.append_toArray, List.nil_append, List.cons_append]
 apply wpS_seq
 apply wpS_region
 simp [wpOpsS, go_sem, recoverD, hu, questionT, Exit.thenS]
 have hlt := hc.lt
 have hq1 := run_is_nilT (.agg #[.int .i64 q.kind, .string q.text, .slice A q.slots.length c])
 have hq2 := run_assertT (.agg #[.int .i64 q.kind, .string q.text, .slice A q.slots.length c])
 have hb := hc.alloc (.cells #[.int .i64 q.kind, .string q.text, .slice A q.slots.length c] 97)
 have c0 := hb.cell 0 rfl
 have c1 := hb.cell 1 rfl
 have c2 := hb.cell 2 rfl
 have d0 := hb.frozen 0
 have d1 := hb.frozen 1
 have d2 := hb.frozen 2
 have a0 := hc.cell 0 rfl
 have a1 := hc.cell 1 rfl
 have a2 := hc.cell 2 rfl
 have b0 := hc.frozen 0
 have b1 := hc.frozen 1
 have b2 := hc.frozen 2
 have hne : b ≠ w.heap.size := Nat.ne_of_lt hlt
 refine wpS_of_wp ?_
 go_wp2
 have hV := hc.three (.int .i64 q.kind) (.string q.text) (.slice A q.slots.length c)
 refine ⟨rfl, _, rfl, .tuple #[], by simp [results, Tryz.results56], rfl, rfl, ?_, hV.alloc _⟩
 exact (fr_three (Fr.refl _ _) (.inl (by simp)) _ _ _).alloc _
theorem catch_idleT (b : Nat) (w : World) :
  CallsD Tryz.prog 56 #[.pointer (some ⟨b, 0, none⟩)] .returning w fun e u' w' => e = .returned (.tuple #[]) ∧ u' = .returning ∧ w' = w := by
 refine callsD_of_wpS Tryz.func56 rfl fun c₀ cs hu => ?_
 simp only [Tryz.ntmps56, List.size_toArray, List.length_cons, List.length_nil, Nat.reduceAdd, Nat.reduceSub, Array.replicate_succ, Array.replicate_zero, List.push_toArray, List.append_toArray, List.nil_append, List.cons_append]
 apply wpS_seq
 apply wpS_region
 simp [wpOpsS, go_sem, recoverD, hu, Exit.thenS]
 refine wpS_of_wp ?_
 go_wp2
 cases c₀
 simp_all [bodyPostS, results, Tryz.results56]
structure SrchT (w : World) (s : Nat) (ans : List Int) (used km : Nat) : Prop where
 ex : ∃ A c, Blk w s 100 #[.slice A ans.length c, .int .i64 used, .map (some km)] ∧ Rd w (.int .u8) A c ans ∧ (0 < ans.length → ∀ a, A = some a → a.block < s)
abbrev KnT := List (Bs × Int)
def bsVal (k : Bs) : Value := .string ⟨k.toArray⟩
def DoAskT (N B : Nat) (w1 : World) (s km : Nat) (S : List Nat) (q : T) (e : Ending) (w' : World) : Prop :=
 ∃ A c, e = .panicked [questionT q A c] ∧ RH (fun k => k = B) N w' A c q ∧ Fr (s :: km :: S) w1 w'
def DoEndT (w1 : World) (s km : Nat) (ans : List Int) (S : List Nat) (J : World → Prop) (er : Int) (used : Nat) (e : Ending) (w' : World) : Prop :=
 e = .returned (.int .i64 er) ∧ SrchT w' s ans used km ∧ Fr (s :: km :: S) w1 w' ∧ J w'
structure AtDoT (w w1 : World) (ans : List Int) : Prop where
 fr : Fr [] w w1
 size : w1.heap.size = w.heap.size + 3
 srch : SrchT w1 (w.heap.size + 1 + 1) ans 0 (w.heap.size + 1)
 map : MapAt w1 (w.heap.size + 1) bsVal (Value.int .u8) ([] : KnT)
 cell : Blk w1 w.heap.size 27 #[.int .i64 0, .string emptyS, .slice none 0 0]
def RunAskT (N : Nat) (w : World) (S : List Nat) (q : T) (e : Ending) (w' : World) : Prop :=
 ∃ A c, e = .returned (.tuple #[.agg (tcells q A c), .bool false, .int .i64 0]) ∧ RH (fun _ => False) N w' A c q ∧ Fr S w w'
def RunEndT (w : World) (S : List Nat) (ans : List Int) (J : World → Prop) (er : Int) (used : Nat) (e : Ending) (w' : World) : Prop :=
 e = .returned (.tuple #[.agg #[.int .i64 0, .string emptyS, .slice none 0 0], .bool (decide (er = 0 ∧ ans.length ≤ used)), .int .i64 (if er ≠ 0 then er else if used < ans.length then 8 else 0)]) ∧ Fr S w w' ∧ ∃ wd, J wd ∧ Fr [w.heap.size] wd w'
theorem atDoT (A : Option Addr) (c : Nat) (ans : List Int) (w : World) (ha : Rd w (.int .u8) A c ans) :
  AtDoT w (((w.alloc (.cells #[.int .i64 0, .string emptyS, .slice none 0 0] 27)).alloc (.map #[] 0)).alloc (.cells #[.slice A ans.length c, .int .i64 0, .map (some (w.heap.size + 1))] 100)) ans := by
 refine ⟨(((Fr.refl _ _).alloc _).alloc _).alloc _, by simp, ⟨A, c, Blk.new _ _ _ _ (by simp), ((ha.alloc _).alloc _).alloc _, fun h0 a hA => ?_⟩, (MapAt.new _ _ _ _ (by simp)).fr0 ((Fr.refl _ _).alloc _), ((Blk.new w _ _ _ rfl).alloc _).alloc _⟩
 have := ha.lt h0 a hA
 omega
set_option maxHeartbeats 1600000 in
theorem run_askT (N : Nat) (w : World) (A : Option Addr) (c : Nat) (ans : List Int) (g : FuncId) (caps : Array Value) (S : List Nat) (hS : ∀ x ∈ S, x < w.heap.size) (q : T) (ha : Rd w (.int .u8) A c ans) (h4 : ans.length ≤ 4096) (hg : ∀ (args : Array Value) (w : World), (callFunc g args).run Tryz.prog w = .ok (.enter g args) w)
  (hdo : ∀ w1, AtDoT w w1 ans → Calls Tryz.prog g (#[.pointer (some ⟨w.heap.size + 1 + 1, 0, none⟩)] ++ caps) w1 (DoAskT N w.heap.size w1 (w.heap.size + 1 + 1) (w.heap.size + 1) S q)) :
  Calls Tryz.prog 27 #[.slice A ans.length c, .func (.func g) #[] caps] w (RunAskT N w S q) := by
 have hmf : ∀ (fn : Fn) (first cap : Array Value) (w : World), (Instr.makeFunc fn first cap).run Tryz.prog w = .ok (.func fn first cap) w := fun _ _ _ _ => rfl
 have hmm := @run_makeMap Tryz.prog
 go_enter_defers Tryz.func27, Tryz.ntmps27
 go_wp2_with fail
 have hat := atDoT A c ans w ha
 refine (hdo _ hat).mono ?_
 rintro e w2 ⟨A2, c2, rfl, hr2, hf2⟩
 have hB2 := hat.cell.fr hf2 (by
  have := hS w.heap.size
  simp
  exact ⟨by omega, fun h => by have := this h; omega⟩)
 go_wp2_with fail
 refine leaves_cons (f := 56) (args := #[.pointer (some ⟨w.heap.size, 0, none⟩)]) (by simp) (by simp [go_sem]) ?_
 refine (catch_questionT _ _ _ _ q A2 c2 [] _ hB2).mono ?_
 rintro e u' w3 ⟨rfl, rfl, hf3, hB3⟩
 have qc0 := hB3.cell 0 rfl
 have qc1 := hB3.cell 1 rfl
 have qc2 := hB3.cell 2 rfl
 simp [Leaves, settle, results, Tryz.results27, go_sem, qc0, qc1, qc2]
 refine ⟨A2, c2, rfl, (hr2.fr hf3 (List.forall_mem_singleton.2 rfl)).sub (fun _ _ h => h.elim), ?_⟩
 exact ((hat.fr.mono (by simp)).trans2 hf2 (fun x hx => by
  simp only [List.mem_cons] at hx
  rcases hx with rfl | rfl | hx
  ·right; omega
  ·right; omega
  ·left; exact hx)).trans2 hf3 (List.forall_mem_singleton.2 (.inr (Nat.le_refl _)))
set_option maxHeartbeats 3200000 in
theorem run_endT (w : World) (A : Option Addr) (c : Nat) (ans : List Int) (g : FuncId) (caps : Array Value) (S : List Nat) (hS : ∀ x ∈ S, x < w.heap.size) (J : World → Prop) (er : Int) (used : Nat) (ha : Rd w (.int .u8) A c ans) (h4 : ans.length ≤ 4096) (hg : ∀ (args : Array Value) (w : World), (callFunc g args).run Tryz.prog w = .ok (.enter g args) w)
  (hdo : ∀ w1, AtDoT w w1 ans → Calls Tryz.prog g (#[.pointer (some ⟨w.heap.size + 1 + 1, 0, none⟩)] ++ caps) w1 (DoEndT w1 (w.heap.size + 1 + 1) (w.heap.size + 1) ans S J er used)) :
  Calls Tryz.prog 27 #[.slice A ans.length c, .func (.func g) #[] caps] w (RunEndT w S ans J er used) := by
 have hmf : ∀ (fn : Fn) (first cap : Array Value) (w : World), (Instr.makeFunc fn first cap).run Tryz.prog w = .ok (.func fn first cap) w := fun _ _ _ _ => rfl
 have hmm := @run_makeMap Tryz.prog
 have hbd := ha.bound
 have hat := atDoT A c ans w ha
 have hmem : ∀ x ∈ (w.heap.size + 1 + 1) :: (w.heap.size + 1) :: S, x ∈ S ∨ w.heap.size ≤ x := fun x hx => by
  simp only [List.mem_cons] at hx
  rcases hx with rfl | rfl | hx
  ·right; omega
  ·right; omega
  ·left; exact hx
 have hn0 : w.heap.size ∉ (w.heap.size + 1 + 1) :: (w.heap.size + 1) :: S := by
  have := hS w.heap.size
  simp
  exact ⟨by omega, fun h => by have := this h; omega⟩
 have hstay : ∀ (w2 : World) (hB : Blk w2 w.heap.size 27 #[.int .i64 0, .string emptyS, .slice none 0 0]), Fr [w.heap.size] w2 (((w2.setCell ⟨w.heap.size, 0, none⟩ (.int .i64 0)).setCell ⟨w.heap.size, 1, none⟩ (.string emptyS)).setCell ⟨w.heap.size, 2, none⟩ (.slice none 0 0)) :=
  fun w2 _ => fr_three (Fr.refl _ _) (.inl (by simp)) _ _ _
 by_cases he : er = 0
 ·subst he
  by_cases hl : used < ans.length
  ·go_enter_defers Tryz.func27, Tryz.ntmps27
   go_wp2_with fail
   refine (hdo _ hat).mono ?_
   rintro e w2 ⟨rfl, hs2, hf2, hJ⟩
   have hB2 := hat.cell.fr hf2 hn0
   obtain ⟨A2, c2, hb2, _⟩ := hs2.ex
   have q1 := hb2.cell 1 rfl
   have qc0 := hB2.cell 0 rfl
   have qc1 := hB2.cell 1 rfl
   have qc2 := hB2.cell 2 rfl
   have qd0 := hB2.frozen 0
   have qd1 := hB2.frozen 1
   have qd2 := hB2.frozen 2
   clear hb2
   go_wp2_with fail
   refine leaves_cons (f := 56) (args := #[.pointer (some ⟨w.heap.size, 0, none⟩)]) (by simp) (by simp [go_sem]) ?_
   refine (catch_idleT _ _).mono ?_
   rintro e u' w3 ⟨rfl, rfl, rfl⟩
   have hB3 := hB2.three (.int .i64 0) (.string emptyS) (.slice none 0 0)
   have qe0 := hB3.cell 0 rfl
   have qe1 := hB3.cell 1 rfl
   have qe2 := hB3.cell 2 rfl
   simp [Leaves, settle, results, Tryz.results27, go_sem, qe0, qe1, qe2]
   exact ⟨by simp [hl], ((hat.fr.mono (by simp)).trans2 hf2 hmem).trans2 (hstay _ hB2) (List.forall_mem_singleton.2 (.inr (Nat.le_refl _))), w2, hJ, hstay _ hB2⟩
  ·have hl' : ans.length ≤ used := by omega
   go_enter_defers Tryz.func27, Tryz.ntmps27
   go_wp2_with fail
   refine (hdo _ hat).mono ?_
   rintro e w2 ⟨rfl, hs2, hf2, hJ⟩
   have hB2 := hat.cell.fr hf2 hn0
   obtain ⟨A2, c2, hb2, _⟩ := hs2.ex
   have q1 := hb2.cell 1 rfl
   have qc0 := hB2.cell 0 rfl
   have qc1 := hB2.cell 1 rfl
   have qc2 := hB2.cell 2 rfl
   have qd0 := hB2.frozen 0
   have qd1 := hB2.frozen 1
   have qd2 := hB2.frozen 2
   clear hb2
   go_wp2_with fail
   refine leaves_cons (f := 56) (args := #[.pointer (some ⟨w.heap.size, 0, none⟩)]) (by simp) (by simp [go_sem]) ?_
   refine (catch_idleT _ _).mono ?_
   rintro e u' w3 ⟨rfl, rfl, rfl⟩
   have hB3 := hB2.three (.int .i64 0) (.string emptyS) (.slice none 0 0)
   have qe0 := hB3.cell 0 rfl
   have qe1 := hB3.cell 1 rfl
   have qe2 := hB3.cell 2 rfl
   simp [Leaves, settle, results, Tryz.results27, go_sem, qe0, qe1, qe2]
   exact ⟨by simp [hl'], ((hat.fr.mono (by simp)).trans2 hf2 hmem).trans2 (hstay _ hB2) (List.forall_mem_singleton.2 (.inr (Nat.le_refl _))), w2, hJ, hstay _ hB2⟩
 ·have heb : (er != 0) = true := by simpa using he
  have HE := Lib.hid he
  clear he
  go_enter_defers Tryz.func27, Tryz.ntmps27
  go_wp2_with fail
  refine (hdo _ hat).mono ?_
  rintro e w2 ⟨rfl, hs2, hf2, hJ⟩
  have hB2 := hat.cell.fr hf2 hn0
  obtain ⟨A2, c2, hb2, _⟩ := hs2.ex
  have q1 := hb2.cell 1 rfl
  have qc0 := hB2.cell 0 rfl
  have qc1 := hB2.cell 1 rfl
  have qc2 := hB2.cell 2 rfl
  have qd0 := hB2.frozen 0
  have qd1 := hB2.frozen 1
  have qd2 := hB2.frozen 2
  clear hb2
  go_wp2_with fail
  refine leaves_cons (f := 56) (args := #[.pointer (some ⟨w.heap.size, 0, none⟩)]) (by simp) (by simp [go_sem]) ?_
  refine (catch_idleT _ _).mono ?_
  rintro e u' w3 ⟨rfl, rfl, rfl⟩
  have hB3 := hB2.three (.int .i64 0) (.string emptyS) (.slice none 0 0)
  have qe0 := hB3.cell 0 rfl
  have qe1 := hB3.cell 1 rfl
  have qe2 := hB3.cell 2 rfl
  simp [Leaves, settle, results, Tryz.results27, go_sem, qe0, qe1, qe2]
  exact ⟨by have := HE.out; simp [this], ((hat.fr.mono (by simp)).trans2 hf2 hmem).trans2 (hstay _ hB2) (List.forall_mem_singleton.2 (.inr (Nat.le_refl _))), w2, hJ, hstay _ hB2⟩
set_option maxHeartbeats 1600000 in
theorem run_limitT (w : World) (A : Option Addr) (c : Nat) (ans : List Int) (F : Value) (ha : Rd w (.int .u8) A c ans) (h4 : 4096 < ans.length) :
  Calls Tryz.prog 27 #[.slice A ans.length c, F] w (RetV w (.tuple #[.agg #[.int .i64 0, .string emptyS, .slice none 0 0], .bool false, .int .i64 3])) := by
 have hbd := ha.bound
 go_enter_defers Tryz.func27, Tryz.ntmps27
 go_wp2
 simp [bodyPostD, Leaves, results, Tryz.results27, go_sem]
 exact ⟨rfl, (Fr.refl _ _).alloc _⟩
end

/- Culprits: the plain search. -/
section
open Go.RowKit
section
variable {P : List (List Int)} {cand sk : List Int} {m m' : Int → Bool} {v : Int}
end
end

/- Culprits: the function that run is handed. -/
section
open Go.RowKit
def CandAt (W : World) (bc : Nat) (R : Nat → Prop) (cand : List Int) : Prop :=
 ∃ A c, Blk W bc 53 #[.slice A cand.length c] ∧ Rd W (.int .i64) A c cand ∧ (0 < cand.length → ∀ a, A = some a → R a.block)
def Out (h0 h1 b : Nat) : Prop := b < h0 ∨ h1 ≤ b
theorem CandAt.fr {S : List Nat} {W W' : World} {bc : Nat} {R : Nat → Prop} {cand : List Int} (h : CandAt W bc R cand) (hf : Fr S W W') (hb : bc ∉ S) (hS : ∀ x ∈ S, ¬ R x ∨ ∃ m : List (Int × Int), MapAt W x (Value.int .i64) (Value.int .u8) m) : CandAt W' bc R cand := by
 obtain ⟨A, c, h1', h2, h3⟩ := h
 refine ⟨A, c, h1'.fr hf hb, h2.fr hf (fun h0' a ha hm => ?_), h3⟩
 rcases hS _ hm with h4 | ⟨m, h4⟩
 ·exact h4 (h3 h0' a ha)
 ·exact h2.apartM h4 h0' a ha rfl
theorem CandAt.fr0 {W W' : World} {bc : Nat} {R : Nat → Prop} {cand : List Int} (h : CandAt W bc R cand) (hf : Fr [] W W') : CandAt W' bc R cand := h.fr hf (by simp) (by simp)
theorem CandAt.imp {W : World} {bc : Nat} {R R' : Nat → Prop} {cand : List Int} (h : CandAt W bc R cand) (hi : ∀ b, b < W.heap.size → R b → R' b) : CandAt W bc R' cand := by
 obtain ⟨A, c, h1, h2, h3⟩ := h
 exact ⟨A, c, h1, h2, fun h0 a ha => hi _ (h2.lt h0 a ha) (h3 h0 a ha)⟩
theorem notU8s {A : Option Addr} {n c : Nat} (i : Nat) (u : Value) (h : (#[Value.slice A n c] : Array Value)[i]? = some u) (x : Int) : u ≠ .int .u8 x := by
 match i, h with
 | 0, h => simp at h; subst h; simp
theorem Srch.farS {w : World} {s used km b n c : Nat} {A : Option Addr} {ans : List Int} {t : TypeId} (h : Srch w s ans used km) (hb : Blk w b t #[.slice A n c]) (hne : s ≠ b) (u : Value) : Srch (w.setCell ⟨b, 0, none⟩ u) s ans used km := by
 obtain ⟨A, c, hs, hr, hn⟩ := h.ex
 exact ⟨A, c, hs.far (p := ⟨b, 0, none⟩) hne u, hr.setCell (p := ⟨b, 0, none⟩) (hr.apart hb notU8s) u, hn⟩
theorem CandAt.grown {W W' : World} {bc : Nat} {Q : Nat → Prop} {v v' : Value} {cd : List Int} (h : CandAt W bc (fun b => Q b ∧ v.ownBlock ≠ some b) cd) (hg : W.grownBy W' v.ownBlock) (hb : v.ownBlock ≠ some bc) (hat : v'.ownBlock = v.ownBlock ∨ v'.ownBlock = some W.heap.size) :
  CandAt W' bc (fun b => Q b ∧ v'.ownBlock ≠ some b) cd := by
 obtain ⟨A, c, h1, h2, h3⟩ := h
 have hf : Fr v.ownBlock.toList W W' := (Fr.refl _ _).grown hg (fun k hk => .inl (by rw [hk]; simp))
 refine ⟨A, c, h1.fr hf (by simpa using hb), h2.fr hf (fun h0 a ha => by simpa using (h3 h0 a ha).2), fun h0 a ha => ⟨(h3 h0 a ha).1, ?_⟩⟩
 rcases hat with e | e
 ·rw [e]; exact (h3 h0 a ha).2
 ·rw [e]
  have := h2.lt h0 a ha
  simp; omega
theorem out_s {h0 h1 s : Nat} (h : h0 ≤ s) (h' : s < h1) : ¬ Out h0 h1 s := by unfold Out; omega
end

/- Culprits of the program. -/
section
open Go.RowKit
theorem RetQstF.drewN {B : Nat} {w w' : World} {r : Qst × Int} {e : Ending} (h : RetQstF B w r e w') (n : Nat) : RetQstF B w r e (w'.drewN n) := by
 obtain ⟨v, h1, h2, A, a, B', b, C, c, h3, ⟨h4, h5⟩, ⟨h6, h7⟩, h8, h9⟩ := h
 exact ⟨v, h1, h2.drewN n, A, a, B', b, C, c, h3, ⟨h4.drewN n, h5⟩, ⟨h6.drewN n, h7⟩, h8.drewN n, h9⟩
end

end Go.Proofs.YtippadnbngcjlaaGreatDoor
