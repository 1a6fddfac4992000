/- Texts of this seat, one behind the other: Run. -/
import Derived.Test.YtippadnbngcjlaaGreatDoorh13
import Derived.Test.YtippadnbngcjlaaGreatDoorh16
import Derived.Recover
import Derived.WideLaws
namespace Go.Proofs.YtippadnbngcjlaaGreatDoor
set_option linter.unusedVariables false

/- run[[]int]: the search that is carried out; its deferred closure that catches a question. -/
section
open Go.RowKit
def question (ask : Value) : PanicEntry := { v := .iface 148 (.agg #[ask]), recovered := false }
def CatchPost (w : World) (p : Addr) (ask : Value) (older : List PanicEntry) (e : Ending) (u' : FrameMode) (w' : World) : Prop :=
 e = .returned (.tuple #[]) ∧ u' = .panicking ({ question ask with recovered := true } :: older) ∧ w' = (w.setCell p ask).alloc (.cells #[ask] 148)
theorem run_is_nil (v : Value) (w : World) : (binOp .eql 20 (.iface 148 v) .nilIface).run Tryz.prog w = .ok (.bool false) w :=
 run_eql_held_nil _ _ _ _ (by kernel_rfl)
theorem run_assert (v : Value) (w : World) : (Instr.typeAssert (.iface 148 v) 20 148 true).run Tryz.prog w = .ok (.tuple #[v, .bool true]) w := by
 simp [Instr.typeAssert, run_underlying Tryz.underlying148]
theorem catch_question (b : Nat) (x : Value) (A : Option Addr) (n c : Nat) (older : List PanicEntry) (w : World) (hc : Blk w b 53 #[x]) :
  CallsD Tryz.prog 89 #[.pointer (some ⟨b, 0, none⟩)] (.panicking (question (.slice A n c) :: older)) w (CatchPost w ⟨b, 0, none⟩ (.slice A n c) older) := by
 refine callsD_of_wpS Tryz.func89 rfl fun c₀ cs hu => ?_
 simp only [Tryz.ntmps89, List.size_toArray, List.length_cons, List.length_nil, Nat.reduceAdd, Nat.reduceSub, Array.replicate_succ, Array.replicate_zero, List.push_toArray, List.append_toArray, List.nil_append, List.cons_append]
 apply wpS_seq
 apply wpS_region
 simp [wpOpsS, go_sem, recoverD, hu, question, Exit.thenS]
 have hlt := hc.lt
 have hq1 := run_is_nil (.agg #[.slice A n c])
 have hq2 := run_assert (.agg #[.slice A n c])
 have c0 := (hc.alloc (.cells #[.slice A n c] 148)).cell 0 rfl
 have d0 := (hc.alloc (.cells #[.slice A n c] 148)).frozen 0
 refine wpS_of_wp ?_
 go_wp2
 refine ⟨rfl, _, rfl, .tuple #[], by simp [results, Tryz.results89], rfl, rfl, rfl⟩
theorem catch_idle (b : Nat) (w : World) :
  CallsD Tryz.prog 89 #[.pointer (some ⟨b, 0, none⟩)] .returning w fun e u' w' => e = .returned (.tuple #[]) ∧ u' = .returning ∧ w' = w := by
 refine callsD_of_wpS Tryz.func89 rfl fun c₀ cs hu => ?_
 simp only [Tryz.ntmps89, List.size_toArray, List.length_cons, List.length_nil, Nat.reduceAdd, Nat.reduceSub, Array.replicate_succ, Array.replicate_zero, List.push_toArray, List.append_toArray, List.nil_append, List.cons_append]
 apply wpS_seq
 apply wpS_region
 simp [wpOpsS, go_sem, recoverD, hu, Exit.thenS]
 refine wpS_of_wp ?_
 go_wp2
 cases c₀
 simp_all [bodyPostS, results, Tryz.results89]
structure Srch (w : World) (s : Nat) (ans : List Int) (used km : Nat) : Prop where
 ex : ∃ A c, Blk w s 149 #[.slice A ans.length c, .int .i64 used, .map (some km)] ∧ Rd w (.int .u8) A c ans ∧ (0 < ans.length → ∀ a, A = some a → a.block < s)
theorem notInt1 {A : Option Addr} {n c : Nat} {k : IntKind} (i : Nat) (u : Value) (h : (#[Value.slice A n c] : Array Value)[i]? = some u) (x : Int) : u ≠ .int k x := by
 match i, h with
 | 0, h => simp at h; subst h; simp
def DoAsk (w1 : World) (s km : Nat) (S : List Nat) (J : World → Prop) (q : List Int) (e : Ending) (w' : World) : Prop :=
 ∃ A c, e = .panicked [question (.slice A q.length c)] ∧ Rd w' (.int .i64) A c q ∧ Fr (s :: km :: S) w1 w' ∧ Nw w1.heap.size A ∧ J w'
def DoEnd (w1 : World) (s km : Nat) (ans : List Int) (S : List Nat) (J : World → Prop) (er : Int) (used : Nat) (e : Ending) (w' : World) : Prop :=
 e = .returned (.int .i64 er) ∧ Srch w' s ans used km ∧ Fr (s :: km :: S) w1 w' ∧ J w'
structure AtDo (w w1 : World) (ans : List Int) : Prop where
 fr : Fr [] w w1
 size : w1.heap.size = w.heap.size + 3
 srch : Srch w1 (w.heap.size + 1 + 1) ans 0 (w.heap.size + 1)
 map : MapAt w1 (w.heap.size + 1) Value.string (Value.int .u8) ([] : List (ByteArray × Int))
 cell : Blk w1 w.heap.size 53 #[.slice none 0 0]
def RunAsk (w : World) (S : List Nat) (J : World → Prop) (q : List Int) (e : Ending) (w' : World) : Prop :=
 ∃ A c, e = .returned (.tuple #[.slice A q.length c, .bool false, .int .i64 0]) ∧ Rd w' (.int .i64) A c q ∧ Fr S w w' ∧ Nw w.heap.size A ∧ ∃ wd, J wd ∧ Fr [w.heap.size] wd w'
def RunEnd (w : World) (S : List Nat) (ans : List Int) (J : World → Prop) (er : Int) (used : Nat) (e : Ending) (w' : World) : Prop :=
 e = .returned (.tuple #[.slice none 0 0, .bool (decide (er = 0 ∧ ans.length ≤ used)), .int .i64 (if er ≠ 0 then er else if used < ans.length then 8 else 0)]) ∧ Fr S w w' ∧ ∃ wd, J wd ∧ Fr [w.heap.size] wd w'
theorem atDo (A : Option Addr) (c : Nat) (ans : List Int) (w : World) (ha : Rd w (.int .u8) A c ans) :
  AtDo w (((w.alloc (.cells #[.slice none 0 0] 53)).alloc (.map #[] 0)).alloc (.cells #[.slice A ans.length c, .int .i64 0, .map (some (w.heap.size + 1))] 149)) ans := by
 refine ⟨(((Fr.refl _ _).alloc _).alloc _).alloc _, by simp, ⟨A, c, Blk.new _ _ _ _ (by simp), ((ha.alloc _).alloc _).alloc _, fun h0 a hA => ?_⟩, (MapAt.new _ _ _ _ (by simp)).fr0 ((Fr.refl _ _).alloc _), ((Blk.new w _ _ _ rfl).alloc _).alloc _⟩
 have := ha.lt h0 a hA
 omega
set_option maxHeartbeats 1000000 in
theorem run_ask (w : World) (A : Option Addr) (c : Nat) (ans : List Int) (g : FuncId) (caps : Array Value) (S : List Nat) (hS : ∀ x ∈ S, x < w.heap.size) (J : World → Prop) (q : List Int) (ha : Rd w (.int .u8) A c ans) (h4 : ans.length ≤ 4096) (hg : ∀ (args : Array Value) (w : World), (callFunc g args).run Tryz.prog w = .ok (.enter g args) w)
  (hdo : ∀ w1, AtDo w w1 ans → Calls Tryz.prog g (#[.pointer (some ⟨w.heap.size + 1 + 1, 0, none⟩)] ++ caps) w1 (DoAsk w1 (w.heap.size + 1 + 1) (w.heap.size + 1) S J q)) :
  Calls Tryz.prog 77 #[.slice A ans.length c, .func (.func g) #[] caps] w (RunAsk w S J q) := by
 have hmf : ∀ (fn : Fn) (first cap : Array Value) (w : World), (Instr.makeFunc fn first cap).run Tryz.prog w = .ok (.func fn first cap) w := fun _ _ _ _ => rfl
 have hmm := @run_makeMap Tryz.prog
 go_enter_defers Tryz.func77, Tryz.ntmps77
 go_wp2_with fail
 have hat := atDo A c ans w ha
 refine (hdo _ hat).mono ?_
 rintro e w2 ⟨A2, c2, rfl, hr2, hf2, hnw, hJ⟩
 have hB2 := hat.cell.fr hf2 (by
  have := hS w.heap.size
  simp
  exact ⟨by omega, fun h => by have := this h; omega⟩)
 go_wp2_with fail
 refine leaves_cons (f := 89) (args := #[.pointer (some ⟨w.heap.size, 0, none⟩)]) (by simp) (by simp [go_sem]) ?_
 refine (catch_question _ _ A2 _ _ [] _ hB2).mono ?_
 rintro e u' w3 ⟨rfl, rfl, rfl⟩
 have hB3 := (hB2.set_ 0 (.slice A2 q.length c2)).alloc (.cells #[.slice A2 q.length c2] 148)
 have qc := hB3.cell 0 (u := .slice A2 q.length c2) (by simp)
 simp [Leaves, settle, results, Tryz.results77, go_sem, qc]
 refine ⟨A2, c2, rfl, (hr2.setCell (p := ⟨w.heap.size, 0, none⟩) (hr2.apart hB2 notInt1) _).alloc _, ?_, hnw.mono hat.fr.size, w2, hJ, ((Fr.refl _ _).setCell (p := ⟨w.heap.size, 0, none⟩) (.inl (by simp)) _).alloc _⟩
 exact ((hat.fr.mono (by simp)).trans2 hf2 (fun x hx => by
  simp only [List.mem_cons] at hx
  rcases hx with rfl | rfl | hx
  ·right; omega
  ·right; omega
  ·left; exact hx) |>.setCell (p := ⟨w.heap.size, 0, none⟩) (.inr (Nat.le_refl _)) _).alloc _
set_option maxHeartbeats 1000000 in
theorem run_end (w : World) (A : Option Addr) (c : Nat) (ans : List Int) (g : FuncId) (caps : Array Value) (S : List Nat) (hS : ∀ x ∈ S, x < w.heap.size) (J : World → Prop) (er : Int) (used : Nat) (ha : Rd w (.int .u8) A c ans) (h4 : ans.length ≤ 4096) (hg : ∀ (args : Array Value) (w : World), (callFunc g args).run Tryz.prog w = .ok (.enter g args) w)
  (hdo : ∀ w1, AtDo w w1 ans → Calls Tryz.prog g (#[.pointer (some ⟨w.heap.size + 1 + 1, 0, none⟩)] ++ caps) w1 (DoEnd w1 (w.heap.size + 1 + 1) (w.heap.size + 1) ans S J er used)) :
  Calls Tryz.prog 77 #[.slice A ans.length c, .func (.func g) #[] caps] w (RunEnd w S ans J er used) := by
 have hmf : ∀ (fn : Fn) (first cap : Array Value) (w : World), (Instr.makeFunc fn first cap).run Tryz.prog w = .ok (.func fn first cap) w := fun _ _ _ _ => rfl
 have hmm := @run_makeMap Tryz.prog
 have hbd := ha.bound
 have hat := atDo A c ans w ha
 have hmem : ∀ x ∈ (w.heap.size + 1 + 1) :: (w.heap.size + 1) :: S, x ∈ S ∨ w.heap.size ≤ x := fun x hx => by
  simp only [List.mem_cons] at hx
  rcases hx with rfl | rfl | hx
  ·right; omega
  ·right; omega
  ·left; exact hx
 have hn0 : w.heap.size ∉ (w.heap.size + 1 + 1) :: (w.heap.size + 1) :: S := by
  have := hS w.heap.size
  simp
  exact ⟨by omega, fun h => by have := this h; omega⟩
 by_cases he : er = 0
 ·subst he
  by_cases hl : used < ans.length
  ·go_enter_defers Tryz.func77, Tryz.ntmps77
   go_wp2_with fail
   refine (hdo _ hat).mono ?_
   rintro e w2 ⟨rfl, hs2, hf2, hJ⟩
   have hB2 := hat.cell.fr hf2 hn0
   obtain ⟨A2, c2, hb2, _⟩ := hs2.ex
   have q1 := hb2.cell 1 rfl
   have qc := hB2.cell 0 rfl
   have qd := hB2.frozen 0
   clear hb2
   go_wp2_with fail
   refine leaves_cons (f := 89) (args := #[.pointer (some ⟨w.heap.size, 0, none⟩)]) (by simp) (by simp [go_sem]) ?_
   refine (catch_idle _ _).mono ?_
   rintro e u' w3 ⟨rfl, rfl, rfl⟩
   have qe := (hB2.set_ 0 (.slice none 0 0)).cell 0 (u := .slice none 0 0) (by simp)
   simp [Leaves, settle, results, Tryz.results77, go_sem, qe]
   exact ⟨by simp [hl], ((hat.fr.mono (by simp)).trans2 hf2 hmem).setCell (p := ⟨w.heap.size, 0, none⟩) (.inr (Nat.le_refl _)) _, w2, hJ, (Fr.refl _ _).setCell (p := ⟨w.heap.size, 0, none⟩) (.inl (by simp)) _⟩
  ·have hl' : ans.length ≤ used := by omega
   go_enter_defers Tryz.func77, Tryz.ntmps77
   go_wp2_with fail
   refine (hdo _ hat).mono ?_
   rintro e w2 ⟨rfl, hs2, hf2, hJ⟩
   have hB2 := hat.cell.fr hf2 hn0
   obtain ⟨A2, c2, hb2, _⟩ := hs2.ex
   have q1 := hb2.cell 1 rfl
   have qc := hB2.cell 0 rfl
   have qd := hB2.frozen 0
   clear hb2
   go_wp2_with fail
   refine leaves_cons (f := 89) (args := #[.pointer (some ⟨w.heap.size, 0, none⟩)]) (by simp) (by simp [go_sem]) ?_
   refine (catch_idle _ _).mono ?_
   rintro e u' w3 ⟨rfl, rfl, rfl⟩
   have qe := (hB2.set_ 0 (.slice none 0 0)).cell 0 (u := .slice none 0 0) (by simp)
   simp [Leaves, settle, results, Tryz.results77, go_sem, qe]
   exact ⟨by simp [hl'], ((hat.fr.mono (by simp)).trans2 hf2 hmem).setCell (p := ⟨w.heap.size, 0, none⟩) (.inr (Nat.le_refl _)) _, w2, hJ, (Fr.refl _ _).setCell (p := ⟨w.heap.size, 0, none⟩) (.inl (by simp)) _⟩
 ·have heb : (er != 0) = true := by simpa using he
  have HE := Lib.hid he
  clear he
  go_enter_defers Tryz.func77, Tryz.ntmps77
  go_wp2_with fail
  refine (hdo _ hat).mono ?_
  rintro e w2 ⟨rfl, hs2, hf2, hJ⟩
  have hB2 := hat.cell.fr hf2 hn0
  obtain ⟨A2, c2, hb2, _⟩ := hs2.ex
  have q1 := hb2.cell 1 rfl
  have qc := hB2.cell 0 rfl
  have qd := hB2.frozen 0
  clear hb2
  go_wp2_with fail
  refine leaves_cons (f := 89) (args := #[.pointer (some ⟨w.heap.size, 0, none⟩)]) (by simp) (by simp [go_sem]) ?_
  refine (catch_idle _ _).mono ?_
  rintro e u' w3 ⟨rfl, rfl, rfl⟩
  have qe := (hB2.set_ 0 (.slice none 0 0)).cell 0 (u := .slice none 0 0) (by simp)
  simp [Leaves, settle, results, Tryz.results77, go_sem, qe]
  exact ⟨by have := HE.out; simp [this], ((hat.fr.mono (by simp)).trans2 hf2 hmem).setCell (p := ⟨w.heap.size, 0, none⟩) (.inr (Nat.le_refl _)) _, w2, hJ, (Fr.refl _ _).setCell (p := ⟨w.heap.size, 0, none⟩) (.inl (by simp)) _⟩
theorem run_limit (w : World) (A : Option Addr) (c : Nat) (ans : List Int) (F : Value) (ha : Rd w (.int .u8) A c ans) (h4 : 4096 < ans.length) :
  Calls Tryz.prog 77 #[.slice A ans.length c, F] w (RetV w (.tuple #[.slice none 0 0, .bool false, .int .i64 3])) := by
 have hbd := ha.bound
 go_enter_defers Tryz.func77, Tryz.ntmps77
 go_wp2
 simp [bodyPostD, Leaves, results, Tryz.results77, go_sem]
 exact ⟨rfl, (Fr.refl _ _).alloc _⟩
end

end Go.Proofs.YtippadnbngcjlaaGreatDoor
