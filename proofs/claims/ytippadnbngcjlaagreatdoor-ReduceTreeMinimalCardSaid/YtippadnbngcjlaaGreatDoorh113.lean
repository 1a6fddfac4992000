/- Texts of this seat, one behind the other: Cuts. -/
import Derived.Test.YtippadnbngcjlaaGreatDoorh111
import Derived.Test.YtippadnbngcjlaaGreatDoorh13
import Derived.Test.YtippadnbngcjlaaGreatDoorh112
import Derived.RangeFuncNested
import Derived.RangeFuncBound
import Derived.Shelf.Abstract
import Derived.Shelf.RegionOpen
import Derived.WalkKit
import Derived.OwnWalkIn
import Derived.TacticsInMore
import Derived.LoopNIn
import Derived.LoopIn
namespace Go.Proofs.YtippadnbngcjlaaGreatDoor
set_option linter.unusedVariables false

/- cuts: the iterator over the chunks of a list. -/
section
open Go Go.RowKit Go.Shelf
attribute [local go_sem] Oper.semAt_some
def cutN (m : Nat) (n : Int) : Nat := min (max n 1).toNat m
def chunkV (b0 o0 m cap N k : Nat) : Value := .slice (some ⟨b0, o0 + k * m / N, none⟩) ((k + 1) * m / N - k * m / N) (cap - k * m / N)
set_option maxRecDepth 20000 in
theorem cuts_any (A : Option Addr) (c m : Nat) (n : Int) (w : World) (hm : m ≤ 1000000) :
  Calls Tryz.prog 75 #[.slice A m c, .int .i64 n] w fun e w' => e = .returned (.func (.func 88) #[] #[.pointer (some ⟨w.heap.size + 1, 0, none⟩), .pointer (some ⟨w.heap.size, 0, none⟩)]) ∧
   w' = (w.alloc (.cells #[.slice A m c] 53)).alloc (.cells #[.int .i64 (cutN m n)] 3) := by
 have hmf : ∀ (fn : Fn) (first cap : Array Value) (w : World), (Instr.makeFunc fn first cap).run Tryz.prog w = .ok (.func fn first cap) w := fun _ _ _ _ => rfl
 by_cases h1 : n < 1
 ·by_cases h0 : m = 0
  ·have hc : Hid (cutN m n = 0) := by show _ = _; unfold cutN; omega
   subst h0
   go_enter Tryz.func75, Tryz.ntmps75
   go_wp2
   go_ret
   rw [hc.out]
   exact ⟨rfl, rfl⟩
  ·have hc : Hid (cutN m n = 1) := by show _ = _; unfold cutN; omega
   have hm1 : 1 ≤ m := by omega
   go_enter Tryz.func75, Tryz.ntmps75
   go_wp2
   go_ret
   rw [hc.out]
   exact ⟨rfl, rfl⟩
 ·by_cases h2 : n < m
  ·have hc : Hid ((cutN m n : Int) = n) := by show _ = _; unfold cutN; omega
   go_enter Tryz.func75, Tryz.ntmps75
   go_wp2
   go_ret
   rw [hc.out]
   exact ⟨rfl, rfl⟩
  ·have hc : Hid ((cutN m n : Int) = m) := by show _ = _; unfold cutN; omega
   by_cases h3 : n = m
   ·subst h3
    go_enter Tryz.func75, Tryz.ntmps75
    go_wp2
    go_ret
    rw [hc.out]
    exact ⟨rfl, rfl⟩
   have h2' : (m : Int) < n := by omega
   clear h3 h2
   go_enter Tryz.func75, Tryz.ntmps75
   go_wp2
   go_ret
   rw [hc.out]
   exact ⟨rfl, rfl⟩
set_option maxRecDepth 20000 in
set_option maxHeartbeats 1600000 in
theorem cuts_gives (B b0 o0 m cap N : Nat) (A : Option Addr) (hA : 0 < N → A = some ⟨b0, o0, none⟩) (hm : m ≤ 1000000) (hN : N ≤ m) (hc : m ≤ cap) (hc2 : cap ≤ 9223372036854775807) :
  Gives Tryz.prog 88 #[.pointer (some ⟨B + 1, 0, none⟩), .pointer (some ⟨B, 0, none⟩)] (chunkV b0 o0 m cap N) N
   (fun W => W.cell? ⟨B, 0, none⟩ = some (.slice A m cap) ∧ W.cell? ⟨B + 1, 0, none⟩ = some (.int .i64 N)) := by
 intro l J Jx Jp W hC hD hY h0
 refine callsIn_of_wp Tryz.func88 rfl trivial ?_ rfl
 simp only [Tryz.ntmps88, List.size_toArray, List.length_cons, List.length_nil, Nat.reduceAdd, Nat.reduceSub, Array.replicate_succ, Array.replicate_zero, List.push_toArray, List.append_toArray, List.nil_append, List.cons_append]
 obtain ⟨k0, k1⟩ := hC 0 W h0
 have hmo : Tryz.prog.follows .mixedOrders = true := by kernel_rfl
 gi_wp2
 gi_loopw [6] (fun i wr => ∃ k : Nat, k ≤ N ∧ i = .int .i64 k ∧ J k wr) (fun i _ => N - (intOf i).toNat)
 case atStart => exact ⟨0, Nat.zero_le _, rfl, h0⟩
 case round =>
  clear k0 k1
  obtain ⟨k, hk, rfl, hJ⟩ := hrel
  obtain ⟨k0, k1⟩ := hC k wr hJ
  by_cases hlt : k < N
  ·obtain rfl := hA (by omega)
   obtain ⟨fn, tmps, assign, body, hy, hR⟩ := hY k wr.drew hlt (hD k wr 1 hJ)
   unfold chunkV at hy
   have hkm : k * m ≤ 1000000000000 := Nat.le_trans (Nat.mul_le_mul (show k ≤ 1000000 by omega) hm) (by omega)
   have hkm1 : (k + 1) * m ≤ 1000000000000 := Nat.le_trans (Nat.mul_le_mul (show k + 1 ≤ 1000000 by omega) hm) (by omega)
   have hN1 : 1 ≤ N := by omega
   have hle : k * m / N + 1 ≤ (k + 1) * m / N := by
    rw [← Nat.add_div_right _ (by omega : 0 < N), Nat.succ_mul]
    exact Nat.div_le_div_right (by omega)
   have hle2 : (k + 1) * m / N ≤ m := by
    refine Nat.div_le_of_le_mul ?_
    exact Nat.mul_le_mul_right _ (by omega)
   have e1 : (k : Int) * (m : Int) = ((k * m : Nat) : Int) := by simp
   have e2 : ((k + 1 : Nat) : Int) * (m : Int) = (((k + 1) * m : Nat) : Int) := by simp
   have e3 : ((k * m : Nat) : Int) / (N : Int) = ((k * m / N : Nat) : Int) := by simp
   have e4 : (((k + 1) * m : Nat) : Int) / (N : Int) = (((k + 1) * m / N : Nat) : Int) := by simp
   generalize k * m / N = lo at *
   generalize (k + 1) * m / N = hi at *
   generalize k * m = p at *
   generalize (k + 1) * m = q at *
   have f1 : IntKind.i64.wrap ((k : Int) * (m : Int)) = (p : Int) := by rw [e1]; exact IntWalk.i64_in _ (by omega)
   have f2 : IntKind.i64.wrap ((p : Int).tdiv (N : Int)) = (lo : Int) := by rw [IntWalk.i64_quo _ _ (by omega), e3]
   have f3 : IntKind.i64.wrap ((k : Int) + 1) = (k : Int) + 1 := IntWalk.i64_in _ (by omega)
   have f2' : IntKind.i64.wrap ((p : Int) / (N : Int)) = (lo : Int) := by rw [e3]; exact IntWalk.i64_in _ (by omega)
   have f4 : IntKind.i64.wrap (((k : Int) + 1) * (m : Int)) = (q : Int) := by rw [show (k : Int) + 1 = ((k + 1 : Nat) : Int) by simp, e2]; exact IntWalk.i64_in _ (by omega)
   have f5 : IntKind.i64.wrap ((q : Int).tdiv (N : Int)) = (hi : Int) := by rw [IntWalk.i64_quo _ _ (by omega), e4]
   have f5' : IntKind.i64.wrap ((q : Int) / (N : Int)) = (hi : Int) := by rw [e4]; exact IntWalk.i64_in _ (by omega)
   have hN2 : ¬ N = 0 := by omega
   clear e1 e2 e3 e4 hkm hkm1
   have hcap : ¬ cap = lo := by omega
   have hhc : hi ≤ cap := by omega
   have hlh : lo ≤ hi := by omega
   have hcap' : ¬ lo = cap := by omega
   gi_wp2
   refine wpIn_region_still_tail 16 hmo (by kernel_rfl) ?_
   simp only [List.take_succ_cons, List.take_zero, List.drop_succ_cons, List.drop_zero]
   repeat still_step
   refine wpStill_nil ?_
   gi_wp2
   refine ⟨rfl, hR.mono ?_⟩
   rintro e W3 (⟨rfl, hJ3⟩ | ⟨rfl, hJ3⟩ | ⟨ch, rfl, hJ3⟩)
   ·gi_wp2
    go_roundw
    case rel => exact ⟨k + 1, by omega, by go_num, hJ3⟩
    case measure => simp [intOf]; omega
   ·gi_wp2
    refine bodyPost_ret (results_none rfl _ _ _) rfl ?_
    exact .inl ⟨_, rfl, .inr hJ3⟩
   ·gi_wp2
    exact ⟨rfl, .inr ⟨ch, rfl, hJ3⟩⟩
  ·obtain rfl : k = N := by omega
   gi_wp2
   go_end0
   exact .inl ⟨_, rfl, .inl hJ⟩
end

end Go.Proofs.YtippadnbngcjlaaGreatDoor
