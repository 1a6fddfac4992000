/- The reference's search that is repeated: play. -/
import Derived.Test.YtjpbmbonccenfaaRef2
namespace Go.Proofs.Ytjpbmbonccenfaa
open Go.RowKit
set_option linter.unusedVariables false

/-- Block bp is a play: the answers, how many were used, stopped or not, what is wanted. -/
structure Play (w : World) (bp : Nat) (ans : List Int) (used : Nat) (S T : Value) (stop : Bool) (want : List Int) : Prop where
  ex : ∃ A c B d, Blk w bp 84 #[.slice A ans.length c, .int .i64 used, S, T, .bool stop, .slice B want.length d] ∧
    Rd w (.int .u8) A c ans ∧ (0 < ans.length → ∀ a, A = some a → a.block ≠ bp) ∧ Rd w (.int .i64) B d want ∧ (0 < want.length → ∀ a, B = some a → a.block ≠ bp)

theorem Play.fr {w w' : World} {bp used : Nat} {ans want : List Int} {X Y : Value} {stop : Bool} (h : Play w bp ans used X Y stop want) (hf : Fr [] w w') : Play w' bp ans used X Y stop want := by
  obtain ⟨A, c, B, d, hh, ha, hna, hb, hnb⟩ := h.ex
  exact ⟨A, c, B, d, hh.fr hf (by simp), ha.fr0 hf, hna, hb.fr0 hf, hnb⟩
theorem Play.lt {w : World} {bp used : Nat} {ans want : List Int} {X Y : Value} {stop : Bool} (h : Play w bp ans used X Y stop want) : bp < w.heap.size := by
  obtain ⟨A, c, B, d, hh, _⟩ := h.ex
  exact hh.lt

/-- begin: a new play; are there few enough answers? -/
def BeginPost (w : World) (ans : List Int) (e : Ending) (w' : World) : Prop :=
  e = .returned (.tuple #[.pointer (some ⟨w.heap.size, 0, none⟩), .bool (decide (ans.length ≤ 4096))]) ∧ Fr [] w w' ∧ Play w' w.heap.size ans 0 (.slice none 0 0) (.slice none 0 0) false []

theorem begin_any (A : Option Addr) (c : Nat) (ans : List Int) (w : World) (ha : Rd w (.int .u8) A c ans) :
    Calls Try.prog 44 #[.slice A ans.length c] w (BeginPost w ans) := by
  go_enter Try.func44, Try.ntmps44
  go_wp2
  go_ret2
  refine ⟨?_, (Fr.refl _ _).alloc _, A, c, none, 0, heap_alloc_new _ _, ha.alloc _, fun h0 a he => ?_, Rd.nil_ _ _, by simp⟩
  · have : decide ((ans.length : Int) ≤ 4096) = decide (ans.length ≤ 4096) := by rw [decide_eq_decide]; omega
    simp [this]
  · have := ha.lt h0 a he
    omega

/-- next where an answer is left. -/
def NextPost (w : World) (bp : Nat) (ans : List Int) (used : Nat) (S T : Value) (a : Int) (e : Ending) (w' : World) : Prop :=
  e = .returned (.int .u8 (told a)) ∧ Fr [bp] w w' ∧ Play w' bp ans (used + 1) S T false []
/-- next where none is left. -/
def StopPost (w : World) (bp : Nat) (ans : List Int) (used : Nat) (S T : Value) (want : List Int) (e : Ending) (w' : World) : Prop :=
  e = .returned (.int .u8 0) ∧ Fr [bp] w w' ∧ Play w' bp ans used S T true want

set_option maxHeartbeats 800000 in
theorem next_some (bp : Nat) (ans : List Int) (used : Nat) (S T : Value) (C : Value) (a : Int) (w : World) (h : Play w bp ans used S T false []) (ha : ans[used]? = some a) :
    Calls Try.prog 68 #[.pointer (some ⟨bp, 0, none⟩), C] w (NextPost w bp ans used S T a) := by
  obtain ⟨A, c, B, d, hh, hr, hna, hb, hnb⟩ := h.ex
  have hu : used < ans.length := (List.getElem?_eq_some_iff.1 ha).1
  have hbd := hr.bound
  obtain ⟨b1, o1, x, rfl, hx, hc⟩ := hr.at_ hu
  obtain rfl : a = x := by have := ha.symm.trans hx.out; simpa using this
  clear ha
  have c0 : w.cell? ⟨bp, 0, none⟩ = some (.slice (some ⟨b1, o1, none⟩) ans.length c) := hh.cell 0 rfl
  have c1 : w.cell? ⟨bp, 1, none⟩ = some (.int .i64 used) := hh.cell 1 rfl
  have f1 : w.frozen? ⟨bp, 1, none⟩ = false := hh.frozen 1
  have hne := hna (by omega) _ rfl
  have HH := Lib.hid hh
  clear hh
  go_enter Try.func68, Try.ntmps68
  go_wp2
  go_quiet (fail)
  go_wp2
  go_quiet ((go_at_call 71; first | exact quiet_of (told_any _ _) | exact quiet_add (told_any _ _)))
  go_wp2
  go_ret
  refine ⟨rfl, (by repeat (first | exact Fr.refl _ _ | assumption | apply Fr.drewN | apply Fr.alloc | refine Fr.setCell ?_ (by simp) _)), ?_⟩
  exact ⟨_, c, B, d, ((HH.out.set_ 1 _).drewN _).drewN _, ((hr.setCell1 hne _).drewN _).drewN _, hna, ((hb.setCell hnb _).drewN _).drewN _, hnb⟩

set_option maxHeartbeats 800000 in
theorem next_none (bp : Nat) (ans : List Int) (used : Nat) (S T : Value) (C : Option Addr) (cc : Nat) (cs : List Int) (w : World) (h : Play w bp ans used S T false []) (hu : ans.length ≤ used)
    (hC : Rd w (.int .i64) C cc cs) (hlen : cs.length ≤ 1000000) (hCn : 0 < cs.length → ∀ a, C = some a → a.block ≠ bp) :
    Calls Try.prog 68 #[.pointer (some ⟨bp, 0, none⟩), .slice C cs.length cc] w (StopPost w bp ans used S T cs) := by
  obtain ⟨A, c, B, d, hh, hr, hna, hb, hnb⟩ := h.ex
  have hbd := hr.bound
  have c0 : w.cell? ⟨bp, 0, none⟩ = some (.slice A ans.length c) := hh.cell 0 rfl
  have c1 : w.cell? ⟨bp, 1, none⟩ = some (.int .i64 used) := hh.cell 1 rfl
  have c4 : w.cell? ⟨bp, 4, none⟩ = some (.bool false) := hh.cell 4 rfl
  have f4 : w.frozen? ⟨bp, 4, none⟩ = false := hh.frozen 4
  have hlt := h.lt
  have HH := Lib.hid hh
  clear hh
  go_enter Try.func68, Try.ntmps68
  go_wp2
  go_quiet (fail)
  go_wp2_with (at_builtin; refine wpList_append_rd rfl (.tmp 19) (.tmp 20) _ rfl elemInts _ _ rfl (own_drewN (own_empty _ _ w.heap.size (by simp)) _) _ _ cs (.int .i64) rfl (((hC.setCell (by simpa using hCn) _).alloc _).drewN _) one_i64 (by omega) (by simp) ?_; intro A2 c2 w2 hown2 hg2 hat2; have HB := Lib.hid ((((HH.out.set_ 4 (.bool true)).alloc _).drewN _).grown hg2 (some_ne_of_lt hlt rfl)); have c5 := HB.out.cell 5 rfl; have f5 := HB.out.frozen 5)
  go_ret
  have hw2 := ((((Fr.refl [bp] w).setCell (.inl (by simp)) _).alloc _).drewN _).app (own_drewN (own_empty _ _ w.heap.size (by simp)) _) (Nat.le_refl _) hg2
  refine ⟨rfl, hw2.setCell (.inl (by simp)) _, A, c, A2, c2, HB.out.set_ 5 _, ?_, hna, ?_, fun _ => own_apart hown2 hlt⟩
  · exact (hr.fr hw2 (fun h0 a ha => by simpa using hna h0 a ha)).setCell hna _
  · exact (own_rd hown2 (by simp) rfl).setCell (fun _ => own_apart hown2 hlt) _
end Go.Proofs.Ytjpbmbonccenfaa
