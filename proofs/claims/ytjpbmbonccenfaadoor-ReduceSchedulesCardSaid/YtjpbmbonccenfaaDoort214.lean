/- Texts of this seat, one behind the other: RunP, NextP. -/
import Derived.Test.YtjpbmbonccenfaaDoort211
import Derived.Test.YtjpbmbonccenfaaDoort24
import Derived.Recover
import Derived.WideLaws
import Derived.Test.YtjpbmbonccenfaaDoort213
/- run over picks: the search that is carried out; its deferred closure that catches a question. -/
namespace Go.Proofs.YtjpbmbonccenfaaDoor
open Go.RowKit
set_option linter.unusedVariables false

section
variable {w w' : World} {A : Option Addr} {c g : Nat} {ps : List Pk} {t : TypeId} {cs : Array Value}
theorem Rp.apart (h : Rp w A c ps) (hb : Blk w g t cs) (hne : ∀ (i : Nat) (u : Value), cs[i]? = some u → ∀ x, u ≠ .int .i64 x) (h0 : 0 < ps.length) (a : Addr) (ha : A = some a) : a.block ≠ g := by
  obtain ⟨b, off, rfl, hc⟩ := h.at0 h0
  have h1 := (hc 0 ps[0] (by simp)).1
  injection ha with ha
  subst ha
  rintro rfl
  have h2 : Rd w (.int .i64) (some ⟨b, off, none⟩) 1 [ps[0].1] := ⟨by simp, by unfold maxLen; omega, fun _ => ⟨b, off, rfl, fun k x hk => by
    match k, hk with
    | 0, hk => simp at hk; subst hk; simpa using h1⟩⟩
  exact h2.apart hb hne (by simp) _ rfl rfl
theorem Rp.setCell (h : Rp w A c ps) {p : Addr} (hn : 0 < ps.length → ∀ a, A = some a → a.block ≠ p.block) (v : Value) : Rp (w.setCell p v) A c ps :=
  h.fr ((Fr.refl [p.block] w).setCell (.inl (by simp)) v) fun h0 a ha => by simpa using hn h0 a ha
end

/-- The value that is thrown: a questionP. -/
def questionP (ask : Value) : PanicEntry := { v := .iface 147 (.agg #[ask]), recovered := false }

/-- The closure catches a questionP: it lies in the result's cell. -/
def CatchPostP (w : World) (p : Addr) (ask : Value) (older : List PanicEntry) (e : Ending) (u' : FrameMode) (w' : World) : Prop :=
  e = .returned (.tuple #[]) ∧ u' = .panicking ({ questionP ask with recovered := true } :: older) ∧ w' = (w.setCell p ask).alloc (.cells #[ask] 147)

theorem zero_questionP (w : World) : (zeroValue 147).run Tryd.prog w = .ok (.agg #[.slice none 0 0]) w := by kernel_rfl
theorem run_is_nilP (v : Value) (w : World) : (binOp .eql 20 (.iface 147 v) .nilIface).run Tryd.prog w = .ok (.bool false) w :=
  run_eql_held_nil _ _ _ _ (by kernel_rfl)
theorem run_assertP (v : Value) (w : World) : (Instr.typeAssert (.iface 147 v) 20 147 true).run Tryd.prog w = .ok (.tuple #[v, .bool true]) w := by
  simp [Instr.typeAssert, run_underlying Tryd.underlying147]

theorem catch_questionP (b : Nat) (x : Value) (A : Option Addr) (n c : Nat) (older : List PanicEntry) (w : World) (hc : Blk w b 47 #[x]) :
    CallsD Tryd.prog 112 #[.pointer (some ⟨b, 0, none⟩)] (.panicking (questionP (.slice A n c) :: older)) w (CatchPostP w ⟨b, 0, none⟩ (.slice A n c) older) := by
  refine callsD_of_wpS Tryd.func112 rfl fun c₀ cs hu => ?_
  simp only [Tryd.ntmps112, List.size_toArray, List.length_cons, List.length_nil, Nat.reduceAdd, Nat.reduceSub, Array.replicate_succ, Array.replicate_zero, List.push_toArray, List.append_toArray, List.nil_append, List.cons_append]
  apply wpS_seq
  apply wpS_region
  simp [wpOpsS, go_sem, recoverD, hu, questionP, Exit.thenS]
  have hlt := hc.lt
  have hq1 := run_is_nilP (.agg #[.slice A n c])
  have hq2 := run_assertP (.agg #[.slice A n c])
  have c0 := (hc.alloc (.cells #[.slice A n c] 147)).cell 0 rfl
  have d0 := (hc.alloc (.cells #[.slice A n c] 147)).frozen 0
  refine wpS_of_wp ?_
  go_wp2
  refine ⟨rfl, _, rfl, .tuple #[], by simp [results, Tryd.results112], rfl, rfl, rfl⟩

theorem catch_idleP (b : Nat) (w : World) :
    CallsD Tryd.prog 112 #[.pointer (some ⟨b, 0, none⟩)] .returning w fun e u' w' => e = .returned (.tuple #[]) ∧ u' = .returning ∧ w' = w := by
  refine callsD_of_wpS Tryd.func112 rfl fun c₀ cs hu => ?_
  simp only [Tryd.ntmps112, List.size_toArray, List.length_cons, List.length_nil, Nat.reduceAdd, Nat.reduceSub, Array.replicate_succ, Array.replicate_zero, List.push_toArray, List.append_toArray, List.nil_append, List.cons_append]
  apply wpS_seq
  apply wpS_region
  simp [wpOpsS, go_sem, recoverD, hu, Exit.thenS]
  refine wpS_of_wp ?_
  go_wp2
  cases c₀
  simp_all [bodyPostS, results, Tryd.results112]
/-- Block s is a search: its answers, how many were used, the map of what is known. -/
structure SrchP (w : World) (s : Nat) (ans : List Int) (used km : Nat) : Prop where
  ex : ∃ A c, Blk w s 148 #[.slice A ans.length c, .int .i64 used, .map (some km)] ∧ Rd w (.int .u8) A c ans ∧ (0 < ans.length → ∀ a, A = some a → a.block < s)

/-- What the function that run is handed does: it leaves by a questionP, or comes to its end. -/
def DoAskP (w1 : World) (s km : Nat) (S : List Nat) (J : World → Prop) (q : List Pk) (e : Ending) (w' : World) : Prop :=
  ∃ A c, e = .panicked [questionP (.slice A q.length c)] ∧ Rp w' A c q ∧ Fr (s :: km :: S) w1 w' ∧ Nw w1.heap.size A ∧ J w'
def DoEndP (w1 : World) (s km : Nat) (ans : List Int) (S : List Nat) (J : World → Prop) (er : Int) (used : Nat) (e : Ending) (w' : World) : Prop :=
  e = .returned (.int .i64 er) ∧ SrchP w' s ans used km ∧ Fr (s :: km :: S) w1 w' ∧ J w'

/-- What is there when the function that run is handed is called; w: the world in which run was called. -/
structure AtDoP (w w1 : World) (ans : List Int) : Prop where
  fr : Fr [] w w1
  size : w1.heap.size = w.heap.size + 3
  srch : SrchP w1 (w.heap.size + 1 + 1) ans 0 (w.heap.size + 1)
  map : MapAt w1 (w.heap.size + 1) Value.string (Value.int .u8) ([] : List (ByteArray × Int))
  cell : Blk w1 w.heap.size 47 #[.slice none 0 0]

def RunAskP (w : World) (S : List Nat) (J : World → Prop) (q : List Pk) (e : Ending) (w' : World) : Prop :=
  ∃ A c, e = .returned (.tuple #[.slice A q.length c, .bool false, .int .i64 0]) ∧ Rp w' A c q ∧ Fr S w w' ∧ Nw w.heap.size A ∧ ∃ wd, J wd ∧ Fr [w.heap.size] wd w'
def RunEndP (w : World) (S : List Nat) (ans : List Int) (J : World → Prop) (er : Int) (used : Nat) (e : Ending) (w' : World) : Prop :=
  e = .returned (.tuple #[.slice none 0 0, .bool (decide (er = 0 ∧ ans.length ≤ used)), .int .i64 (if er ≠ 0 then er else if used < ans.length then 8 else 0)]) ∧ Fr S w w' ∧ ∃ wd, J wd ∧ Fr [w.heap.size] wd w'

theorem atDoP (A : Option Addr) (c : Nat) (ans : List Int) (w : World) (ha : Rd w (.int .u8) A c ans) :
    AtDoP w (((w.alloc (.cells #[.slice none 0 0] 47)).alloc (.map #[] 0)).alloc (.cells #[.slice A ans.length c, .int .i64 0, .map (some (w.heap.size + 1))] 148)) ans := by
  refine ⟨(((Fr.refl _ _).alloc _).alloc _).alloc _, by simp, ⟨A, c, Blk.new _ _ _ _ (by simp), ((ha.alloc _).alloc _).alloc _, fun h0 a hA => ?_⟩, (MapAt.new _ _ _ _ (by simp)).fr0 ((Fr.refl _ _).alloc _), ((Blk.new w _ _ _ rfl).alloc _).alloc _⟩
  have := ha.lt h0 a hA
  omega

set_option maxHeartbeats 1000000 in
theorem run_askP (w : World) (A : Option Addr) (c : Nat) (ans : List Int) (g : FuncId) (caps : Array Value) (S : List Nat) (hS : ∀ x ∈ S, x < w.heap.size) (J : World → Prop) (q : List Pk) (ha : Rd w (.int .u8) A c ans) (h4 : ans.length ≤ 4096) (hg : ∀ (args : Array Value) (w : World), (callFunc g args).run Tryd.prog w = .ok (.enter g args) w)
    (hdo : ∀ w1, AtDoP w w1 ans → Calls Tryd.prog g (#[.pointer (some ⟨w.heap.size + 1 + 1, 0, none⟩)] ++ caps) w1 (DoAskP w1 (w.heap.size + 1 + 1) (w.heap.size + 1) S J q)) :
    Calls Tryd.prog 89 #[.slice A ans.length c, .func (.func g) #[] caps] w (RunAskP w S J q) := by
  have hmf : ∀ (fn : Fn) (first cap : Array Value) (w : World), (Instr.makeFunc fn first cap).run Tryd.prog w = .ok (.func fn first cap) w := fun _ _ _ _ => rfl
  have hmm := @run_makeMap Tryd.prog
  go_enter_defers Tryd.func89, Tryd.ntmps89
  go_wp2_with fail
  have hat := atDoP A c ans w ha
  refine (hdo _ hat).mono ?_
  rintro e w2 ⟨A2, c2, rfl, hr2, hf2, hnw, hJ⟩
  have hB2 := hat.cell.fr hf2 (by
    have := hS w.heap.size
    simp
    exact ⟨by omega, fun h => by have := this h; omega⟩)
  go_wp2_with fail
  refine leaves_cons (f := 112) (args := #[.pointer (some ⟨w.heap.size, 0, none⟩)]) (by simp) (by simp [go_sem]) ?_
  refine (catch_questionP _ _ A2 _ _ [] _ hB2).mono ?_
  rintro e u' w3 ⟨rfl, rfl, rfl⟩
  have hB3 := (hB2.set_ 0 (.slice A2 q.length c2)).alloc (.cells #[.slice A2 q.length c2] 147)
  have qc := hB3.cell 0 (u := .slice A2 q.length c2) (by simp)
  simp [Leaves, settle, results, Tryd.results89, go_sem, qc]
  refine ⟨A2, c2, rfl, (hr2.setCell (p := ⟨w.heap.size, 0, none⟩) (hr2.apart hB2 notInt1) _).alloc _, ?_, hnw.mono hat.fr.size, w2, hJ, ((Fr.refl _ _).setCell (p := ⟨w.heap.size, 0, none⟩) (.inl (by simp)) _).alloc _⟩
  exact ((hat.fr.mono (by simp)).trans2 hf2 (fun x hx => by
    simp only [List.mem_cons] at hx
    rcases hx with rfl | rfl | hx
    · right; omega
    · right; omega
    · left; exact hx) |>.setCell (p := ⟨w.heap.size, 0, none⟩) (.inr (Nat.le_refl _)) _).alloc _

set_option maxHeartbeats 1000000 in
theorem run_endP (w : World) (A : Option Addr) (c : Nat) (ans : List Int) (g : FuncId) (caps : Array Value) (S : List Nat) (hS : ∀ x ∈ S, x < w.heap.size) (J : World → Prop) (er : Int) (used : Nat) (ha : Rd w (.int .u8) A c ans) (h4 : ans.length ≤ 4096) (hg : ∀ (args : Array Value) (w : World), (callFunc g args).run Tryd.prog w = .ok (.enter g args) w)
    (hdo : ∀ w1, AtDoP w w1 ans → Calls Tryd.prog g (#[.pointer (some ⟨w.heap.size + 1 + 1, 0, none⟩)] ++ caps) w1 (DoEndP w1 (w.heap.size + 1 + 1) (w.heap.size + 1) ans S J er used)) :
    Calls Tryd.prog 89 #[.slice A ans.length c, .func (.func g) #[] caps] w (RunEndP w S ans J er used) := by
  have hmf : ∀ (fn : Fn) (first cap : Array Value) (w : World), (Instr.makeFunc fn first cap).run Tryd.prog w = .ok (.func fn first cap) w := fun _ _ _ _ => rfl
  have hmm := @run_makeMap Tryd.prog
  have hbd := ha.bound
  have hat := atDoP A c ans w ha
  have hmem : ∀ x ∈ (w.heap.size + 1 + 1) :: (w.heap.size + 1) :: S, x ∈ S ∨ w.heap.size ≤ x := fun x hx => by
    simp only [List.mem_cons] at hx
    rcases hx with rfl | rfl | hx
    · right; omega
    · right; omega
    · left; exact hx
  have hn0 : w.heap.size ∉ (w.heap.size + 1 + 1) :: (w.heap.size + 1) :: S := by
    have := hS w.heap.size
    simp
    exact ⟨by omega, fun h => by have := this h; omega⟩
  by_cases he : er = 0
  · subst he
    by_cases hl : used < ans.length
    · go_enter_defers Tryd.func89, Tryd.ntmps89
      go_wp2_with fail
      refine (hdo _ hat).mono ?_
      rintro e w2 ⟨rfl, hs2, hf2, hJ⟩
      have hB2 := hat.cell.fr hf2 hn0
      obtain ⟨A2, c2, hb2, _⟩ := hs2.ex
      have q1 := hb2.cell 1 rfl
      have qc := hB2.cell 0 rfl
      have qd := hB2.frozen 0
      clear hb2
      go_wp2_with fail
      refine leaves_cons (f := 112) (args := #[.pointer (some ⟨w.heap.size, 0, none⟩)]) (by simp) (by simp [go_sem]) ?_
      refine (catch_idleP _ _).mono ?_
      rintro e u' w3 ⟨rfl, rfl, rfl⟩
      have qe := (hB2.set_ 0 (.slice none 0 0)).cell 0 (u := .slice none 0 0) (by simp)
      simp [Leaves, settle, results, Tryd.results89, go_sem, qe]
      exact ⟨by simp [hl], ((hat.fr.mono (by simp)).trans2 hf2 hmem).setCell (p := ⟨w.heap.size, 0, none⟩) (.inr (Nat.le_refl _)) _, w2, hJ, (Fr.refl _ _).setCell (p := ⟨w.heap.size, 0, none⟩) (.inl (by simp)) _⟩
    · have hl' : ans.length ≤ used := by omega
      go_enter_defers Tryd.func89, Tryd.ntmps89
      go_wp2_with fail
      refine (hdo _ hat).mono ?_
      rintro e w2 ⟨rfl, hs2, hf2, hJ⟩
      have hB2 := hat.cell.fr hf2 hn0
      obtain ⟨A2, c2, hb2, _⟩ := hs2.ex
      have q1 := hb2.cell 1 rfl
      have qc := hB2.cell 0 rfl
      have qd := hB2.frozen 0
      clear hb2
      go_wp2_with fail
      refine leaves_cons (f := 112) (args := #[.pointer (some ⟨w.heap.size, 0, none⟩)]) (by simp) (by simp [go_sem]) ?_
      refine (catch_idleP _ _).mono ?_
      rintro e u' w3 ⟨rfl, rfl, rfl⟩
      have qe := (hB2.set_ 0 (.slice none 0 0)).cell 0 (u := .slice none 0 0) (by simp)
      simp [Leaves, settle, results, Tryd.results89, go_sem, qe]
      exact ⟨by simp [hl'], ((hat.fr.mono (by simp)).trans2 hf2 hmem).setCell (p := ⟨w.heap.size, 0, none⟩) (.inr (Nat.le_refl _)) _, w2, hJ, (Fr.refl _ _).setCell (p := ⟨w.heap.size, 0, none⟩) (.inl (by simp)) _⟩
  · have heb : (er != 0) = true := by simpa using he
    have HE := Lib.hid he
    clear he
    go_enter_defers Tryd.func89, Tryd.ntmps89
    go_wp2_with fail
    refine (hdo _ hat).mono ?_
    rintro e w2 ⟨rfl, hs2, hf2, hJ⟩
    have hB2 := hat.cell.fr hf2 hn0
    obtain ⟨A2, c2, hb2, _⟩ := hs2.ex
    have q1 := hb2.cell 1 rfl
    have qc := hB2.cell 0 rfl
    have qd := hB2.frozen 0
    clear hb2
    go_wp2_with fail
    refine leaves_cons (f := 112) (args := #[.pointer (some ⟨w.heap.size, 0, none⟩)]) (by simp) (by simp [go_sem]) ?_
    refine (catch_idleP _ _).mono ?_
    rintro e u' w3 ⟨rfl, rfl, rfl⟩
    have qe := (hB2.set_ 0 (.slice none 0 0)).cell 0 (u := .slice none 0 0) (by simp)
    simp [Leaves, settle, results, Tryd.results89, go_sem, qe]
    exact ⟨by have := HE.out; simp [this], ((hat.fr.mono (by simp)).trans2 hf2 hmem).setCell (p := ⟨w.heap.size, 0, none⟩) (.inr (Nat.le_refl _)) _, w2, hJ, (Fr.refl _ _).setCell (p := ⟨w.heap.size, 0, none⟩) (.inl (by simp)) _⟩

theorem run_limitP (w : World) (A : Option Addr) (c : Nat) (ans : List Int) (F : Value) (ha : Rd w (.int .u8) A c ans) (h4 : 4096 < ans.length) :
    Calls Tryd.prog 89 #[.slice A ans.length c, F] w (RetV w (.tuple #[.slice none 0 0, .bool false, .int .i64 3])) := by
  have hbd := ha.bound
  go_enter_defers Tryd.func89, Tryd.ntmps89
  go_wp2
  simp [bodyPostD, Leaves, results, Tryd.results89, go_sem]
  exact ⟨rfl, (Fr.refl _ _).alloc _⟩
end Go.Proofs.YtjpbmbonccenfaaDoor

/- next over picks. -/
namespace Go.Proofs.YtjpbmbonccenfaaDoor
open Go.RowKit
set_option linter.unusedVariables false

def NextGotP (w : World) (s : Nat) (ans : List Int) (used km : Nat) (a : Int) (e : Ending) (w' : World) : Prop :=
  e = .returned (.int .u8 (told a)) ∧ Fr [s] w w' ∧ SrchP w' s ans (used + 1) km
def NextAskP (w : World) (ask : Value) (e : Ending) (w' : World) : Prop := e = .panicked [questionP ask] ∧ ∃ n, w' = w.drewN n

theorem SrchP.fr0 {w w' : World} {s used km : Nat} {ans : List Int} (h : SrchP w s ans used km) (hf : Fr [] w w') : SrchP w' s ans used km := by
  obtain ⟨A, c, hb, hr, hn⟩ := h.ex
  exact ⟨A, c, hb.fr hf (by simp), hr.fr0 hf, hn⟩
theorem SrchP.lt {w : World} {s used km : Nat} {ans : List Int} (h : SrchP w s ans used km) : s < w.heap.size := by
  obtain ⟨A, c, hb, hr, hn⟩ := h.ex
  exact hb.lt

set_option maxHeartbeats 800000 in
theorem inext_gotP (s : Nat) (ans : List Int) (used km : Nat) (C : Value) (a : Int) (w : World) (h : SrchP w s ans used km) (ha : ans[used]? = some a) :
    Calls Tryd.prog 118 #[.pointer (some ⟨s, 0, none⟩), C] w (NextGotP w s ans used km a) := by
  obtain ⟨A, c, hb, hr, hna⟩ := h.ex
  have hu : used < ans.length := (List.getElem?_eq_some_iff.1 ha).1
  have hbd := hr.bound
  obtain ⟨b1, o1, x, rfl, hx, hc⟩ := hr.at_ hu
  obtain rfl : a = x := by have := ha.symm.trans hx.out; simpa using this
  clear ha
  have c0 := hb.cell 0 rfl
  have c1 := hb.cell 1 rfl
  have f1 := hb.frozen 1
  have hne := hna (by omega) _ rfl
  have hbe : ((used : Int) == ans.length) = false := by simp; omega
  go_enter Tryd.func118, Tryd.ntmps118
  go_wp2
  go_quiet (fail)
  go_wp2
  go_quiet ((go_at_call 116; first | exact quiet_of (plain_any _ _) | exact quiet_add (plain_any _ _)))
  go_wp2
  go_ret
  refine ⟨rfl, (by repeat (first | exact Fr.refl _ _ | assumption | apply Fr.drewN | apply Fr.drew | apply Fr.alloc | refine Fr.setCell ?_ (by simp) _)), ?_⟩
  exact ⟨_, c, ((hb.set_ 1 _).drewN _).drewN _, ((hr.setCell1 (Nat.ne_of_lt hne) _).drewN _).drewN _, hna⟩

set_option maxHeartbeats 800000 in
theorem inext_askP (s : Nat) (ans : List Int) (used km : Nat) (D : Option Addr) (n d : Nat) (w : World) (h : SrchP w s ans used km) (hu : used = ans.length) :
    Calls Tryd.prog 118 #[.pointer (some ⟨s, 0, none⟩), .slice D n d] w (NextAskP w (.slice D n d)) := by
  obtain ⟨A, c, hb, hr, hna⟩ := h.ex
  have hbd := hr.bound
  have c0 := hb.cell 0 rfl
  have c1 := hb.cell 1 rfl
  have hbe : ((used : Int) == ans.length) = true := by simp; omega
  clear hu
  go_enter Tryd.func118, Tryd.ntmps118
  go_wp2
  go_quiet (fail)
  have hp := fun w => run_panic_iface (P := Tryd.prog) w 147 (.agg #[.slice D n d])
  go_wp2
  exact ⟨rfl, rfl, _, rfl⟩

end Go.Proofs.YtjpbmbonccenfaaDoor
