/- Texts of this seat, one behind the other: Of, IBetw, IBis, IBisect. -/
import Derived.Test.YtippadnbngcjlaaGreatDoorh115
import Derived.Test.YtippadnbngcjlaaGreatDoorh13
import Derived.Deep.LoopGhost
import Derived.Test.YtippadnbngcjlaaGreatDoorh116
namespace Go.Proofs.YtippadnbngcjlaaGreatDoor
set_option linter.unusedVariables false

/- The verdicts of the program: next, of, judge, between. -/
section
open Go.RowKit
def NextGot (w : World) (s : Nat) (ans : List Int) (used km : Nat) (a : Int) (e : Ending) (w' : World) : Prop :=
 e = .returned (.int .u8 (told a)) ∧ Fr [s] w w' ∧ Srch w' s ans (used + 1) km
def NextAsk (w : World) (ask : Value) (e : Ending) (w' : World) : Prop := e = .panicked [question ask] ∧ ∃ n, w' = w.drewN n
theorem Srch.fr0 {w w' : World} {s used km : Nat} {ans : List Int} (h : Srch w s ans used km) (hf : Fr [] w w') : Srch w' s ans used km := by
 obtain ⟨A, c, hb, hr, hn⟩ := h.ex
 exact ⟨A, c, hb.fr hf (by simp), hr.fr0 hf, hn⟩
theorem Srch.lt {w : World} {s used km : Nat} {ans : List Int} (h : Srch w s ans used km) : s < w.heap.size := by
 obtain ⟨A, c, hb, hr, hn⟩ := h.ex
 exact hb.lt
set_option maxHeartbeats 800000 in
theorem inext_got (s : Nat) (ans : List Int) (used km : Nat) (C : Value) (a : Int) (w : World) (h : Srch w s ans used km) (ha : ans[used]? = some a) :
  Calls Tryz.prog 94 #[.pointer (some ⟨s, 0, none⟩), C] w (NextGot w s ans used km a) := by
 obtain ⟨A, c, hb, hr, hna⟩ := h.ex
 have hu : used < ans.length := (List.getElem?_eq_some_iff.1 ha).1
 have hbd := hr.bound
 obtain ⟨b1, o1, x, rfl, hx, hc⟩ := hr.at_ hu
 obtain rfl : a = x := by have := ha.symm.trans hx.out; simpa using this
 clear ha
 have c0 := hb.cell 0 rfl
 have c1 := hb.cell 1 rfl
 have f1 := hb.frozen 1
 have hne := hna (by omega) _ rfl
 have hbe : ((used : Int) == ans.length) = false := by simp; omega
 go_enter Tryz.func94, Tryz.ntmps94
 go_wp2
 go_quiet (fail)
 go_wp2
 go_quiet ((go_at_call 92; first | exact quiet_of (plain_any _ _) | exact quiet_add (plain_any _ _)))
 go_wp2
 go_ret
 refine ⟨rfl, frx, ?_⟩
 exact ⟨_, c, ((hb.set_ 1 _).drewN _).drewN _, ((hr.setCell1 (Nat.ne_of_lt hne) _).drewN _).drewN _, hna⟩
theorem run_panic_iface {P : Program} (w : World) (t : TypeId) (v : Value) : (Instr.panic (.iface t v)).run P w = .halt (.panic (.iface t v)) w := rfl
set_option maxHeartbeats 800000 in
theorem inext_ask (s : Nat) (ans : List Int) (used km : Nat) (D : Option Addr) (n d : Nat) (w : World) (h : Srch w s ans used km) (hu : used = ans.length) :
  Calls Tryz.prog 94 #[.pointer (some ⟨s, 0, none⟩), .slice D n d] w (NextAsk w (.slice D n d)) := by
 obtain ⟨A, c, hb, hr, hna⟩ := h.ex
 have hbd := hr.bound
 have c0 := hb.cell 0 rfl
 have c1 := hb.cell 1 rfl
 have hbe : ((used : Int) == ans.length) = true := by simp; omega
 clear hu
 go_enter Tryz.func94, Tryz.ntmps94
 go_wp2
 go_quiet (fail)
 have hp := fun w => run_panic_iface (P := Tryz.prog) w 148 (.agg #[.slice D n d])
 go_wp2
 exact ⟨rfl, rfl, _, rfl⟩
theorem zeroV (w : World) : (zeroValue 46).run Tryz.prog w = .ok (.int .u8 0) w := by kernel_rfl
end

/- The verdicts of the program: judge, between. -/
section
open Go.RowKit
end

/- The program's Bisect: the search that it hands to run. -/
section
open Go.RowKit
theorem notU8 {z : Int} (i : Nat) (u : Value) (h : (#[Value.int .i64 z] : Array Value)[i]? = some u) (x : Int) : u ≠ .int .u8 x := by
 match i, h with
 | 0, h => simp at h; subst h; simp
theorem Srch.far {w : World} {s used km b : Nat} {ans : List Int} {t : TypeId} {z : Int} (h : Srch w s ans used km) (hb : Blk w b t #[.int .i64 z]) (hne : s ≠ b) (u : Value) : Srch (w.setCell ⟨b, 0, none⟩ u) s ans used km := by
 obtain ⟨A, c, hs, hr, hn⟩ := h.ex
 exact ⟨A, c, hs.far (p := ⟨b, 0, none⟩) hne u, hr.setCell (p := ⟨b, 0, none⟩) (hr.apart hb notU8) u, hn⟩
end

/- The program's Bisect. -/
section
open Go.RowKit
end

end Go.Proofs.YtippadnbngcjlaaGreatDoor
