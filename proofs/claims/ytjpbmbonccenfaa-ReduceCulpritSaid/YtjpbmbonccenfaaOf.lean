/- The verdicts of the program: next, of, judge, between. -/
import Derived.Test.YtjpbmbonccenfaaRun
import Derived.Test.YtjpbmbonccenfaaVer
import Derived.Test.YtjpbmbonccenfaaBetw
import Derived.Deep.LoopGhost
namespace Go.Proofs.Ytjpbmbonccenfaa
open Go.RowKit
set_option linter.unusedVariables false

def NextGot (w : World) (s : Nat) (ans : List Int) (used km : Nat) (a : Int) (e : Ending) (w' : World) : Prop :=
  e = .returned (.int .u8 (told a)) ∧ Fr [s] w w' ∧ Srch w' s ans (used + 1) km
def NextAsk (w : World) (ask : Value) (e : Ending) (w' : World) : Prop := e = .panicked [question ask] ∧ ∃ n, w' = w.drewN n

theorem Srch.fr0 {w w' : World} {s used km : Nat} {ans : List Int} (h : Srch w s ans used km) (hf : Fr [] w w') : Srch w' s ans used km := by
  obtain ⟨A, c, hb, hr, hn⟩ := h.ex
  exact ⟨A, c, hb.fr hf (by simp), hr.fr0 hf, hn⟩
theorem Srch.lt {w : World} {s used km : Nat} {ans : List Int} (h : Srch w s ans used km) : s < w.heap.size := by
  obtain ⟨A, c, hb, hr, hn⟩ := h.ex
  exact hb.lt

set_option maxHeartbeats 800000 in
theorem inext_got (s : Nat) (ans : List Int) (used km : Nat) (C : Value) (a : Int) (w : World) (h : Srch w s ans used km) (ha : ans[used]? = some a) :
    Calls Try.prog 67 #[.pointer (some ⟨s, 0, none⟩), C] w (NextGot w s ans used km a) := by
  obtain ⟨A, c, hb, hr, hna⟩ := h.ex
  have hu : used < ans.length := (List.getElem?_eq_some_iff.1 ha).1
  have hbd := hr.bound
  obtain ⟨b1, o1, x, rfl, hx, hc⟩ := hr.at_ hu
  obtain rfl : a = x := by have := ha.symm.trans hx.out; simpa using this
  clear ha
  have c0 := hb.cell 0 rfl
  have c1 := hb.cell 1 rfl
  have f1 := hb.frozen 1
  have hne := hna (by omega) _ rfl
  have hbe : ((used : Int) == ans.length) = false := by simp; omega
  go_enter Try.func67, Try.ntmps67
  go_wp2
  go_quiet (fail)
  go_wp2
  go_quiet ((go_at_call 70; first | exact quiet_of (plain_any _ _) | exact quiet_add (plain_any _ _)))
  go_wp2
  go_ret
  refine ⟨rfl, (by repeat (first | exact Fr.refl _ _ | assumption | apply Fr.drewN | apply Fr.drew | apply Fr.alloc | refine Fr.setCell ?_ (by simp) _)), ?_⟩
  exact ⟨_, c, ((hb.set_ 1 _).drewN _).drewN _, ((hr.setCell1 (Nat.ne_of_lt hne) _).drewN _).drewN _, hna⟩

theorem run_panic_iface {P : Program} (w : World) (t : TypeId) (v : Value) : (Instr.panic (.iface t v)).run P w = .halt (.panic (.iface t v)) w := rfl

set_option maxHeartbeats 800000 in
theorem inext_ask (s : Nat) (ans : List Int) (used km : Nat) (D : Option Addr) (n d : Nat) (w : World) (h : Srch w s ans used km) (hu : used = ans.length) :
    Calls Try.prog 67 #[.pointer (some ⟨s, 0, none⟩), .slice D n d] w (NextAsk w (.slice D n d)) := by
  obtain ⟨A, c, hb, hr, hna⟩ := h.ex
  have hbd := hr.bound
  have c0 := hb.cell 0 rfl
  have c1 := hb.cell 1 rfl
  have hbe : ((used : Int) == ans.length) = true := by simp; omega
  clear hu
  go_enter Try.func67, Try.ntmps67
  go_wp2
  go_quiet (fail)
  have hp := fun w => run_panic_iface (P := Try.prog) w 95 (.agg #[.slice D n d])
  go_wp2
  exact ⟨rfl, rfl, _, rfl⟩

theorem told_cases (a : Int) : told a = 1 ∨ told a = 2 ∨ told a = 3 := by
  unfold told
  split
  · omega
  · omega
theorem keyI : KeyT Try.prog 3 (.int .i64) (fun z : Int => Value.int .i64 z) := keyInt Try.underlying3
theorem zeroV (w : World) : (zeroValue 33).run Try.prog w = .ok (.int .u8 0) w := by kernel_rfl

/-- Block v is the verdicts of the search s: how often a version is asked, and what is known. -/
structure Vers (w : World) (v s : Nat) (times : Int) (kv : Nat) (m : List (Int × Int)) : Prop where
  blk : Blk w v 101 #[.pointer (some ⟨s, 0, none⟩), .int .i64 times, .map (some kv)]
  map : MapAt w kv (Value.int .i64) (Value.int .u8) m

theorem Vers.fr {S : List Nat} {w w' : World} {v s kv : Nat} {times : Int} {m : List (Int × Int)} (h : Vers w v s times kv m) (hf : Fr S w w') (h1 : v ∉ S) (h2 : kv ∉ S) : Vers w' v s times kv m :=
  ⟨h.blk.fr hf h1, h.map.fr hf h2⟩

set_option maxHeartbeats 800000 in
theorem of_known (v s kv : Nat) (times : Int) (m : List (Int × Int)) (n x : Int) (w : World) (h : Vers w v s times kv m) (hk : m.lookup n = some x) :
    Calls Try.prog 41 #[.pointer (some ⟨v, 0, none⟩), .int .i64 n] w (RetQ w (.int .u8 x)) := by
  have c2 := h.blk.cell 2 rfl
  have hlk : ∀ d, (Instr.lookup 99 (.map (some kv)) (.int .i64 n) true).run Try.prog (w.drewN d) = .ok (.tuple #[.int .u8 x, .bool true]) (w.drewN d) := fun d => by
    have := run_lookup_at (w := w.drewN d) keyI Try.underlying99 0 (zeroV _) h.map n
    rw [hk] at this
    exact this
  have hlk0 := hlk 0
  rw [World.drewN_zero] at hlk0
  clear hk
  go_enter Try.func41, Try.ntmps41
  go_wp2
  go_ret
  exact ⟨rfl, 0, rfl⟩
def OfAsk (w : World) (s : Nat) (n : Int) (e : Ending) (w' : World) : Prop := ∃ A c, e = .panicked [question (.slice A [n].length c)] ∧ Rd w' (.int .i64) A c [n] ∧ Fr [s] w w' ∧ Nw w.heap.size A
def OfGot (w : World) (v s kv km : Nat) (times : Int) (m : List (Int × Int)) (ans : List Int) (n x : Int) (u : Nat) (e : Ending) (w' : World) : Prop :=
  e = .returned (.int .u8 x) ∧ Fr [s, kv] w w' ∧ Srch w' s ans u km ∧ Vers w' v s times kv (m ++ [(n, x)])

set_option maxHeartbeats 1600000 in
theorem of_ask (v s kv km : Nat) (times : Int) (m : List (Int × Int)) (ans : List Int) (used : Nat) (n : Int) (w : World) (h : Vers w v s times kv m) (hs : Srch w s ans used km) (hvs : v ≠ s) (hks : kv ≠ s) (ht1 : 1 ≤ times) (ht9 : times ≤ 9)
    (hu : used ≤ ans.length) (hk : m.lookup n = none) (hv : ver ans times.toNat used 3 = none) :
    Calls Try.prog 41 #[.pointer (some ⟨v, 0, none⟩), .int .i64 n] w (OfAsk w s n) := by
  have c2 := h.blk.cell 2 rfl
  have c1 := h.blk.cell 1 rfl
  have hlk0 := run_lookup_at keyI Try.underlying99 0 (zeroV _) h.map n
  rw [hk] at hlk0
  simp only [Option.getD_none, Option.isSome_none] at hlk0
  have HV := Lib.hid hv
  clear hk hv
  go_enter Try.func41, Try.ntmps41
  go_wp2
  go_loopw [7, 24] (fun out i wr => ∃ (k : Nat) (o : Int), (k : Int) ≤ times ∧ i = .int .i64 k ∧ out = .int .u8 o ∧ Hid (ver ans (times.toNat - k) (used + k) o = none) ∧ used + k ≤ ans.length ∧ Srch wr s ans (used + k) km ∧ Fr [s] w wr) (fun _ i _ => 9 - (intOf i).toNat)
  case atStart => exact ⟨0, 3, by omega, rfl, rfl, HV, by omega, hs, Fr.refl _ _⟩
  case round =>
    clear hlk0
    obtain ⟨k, o, hkt, rfl, rfl, hv, hul, hs1, hf⟩ := hrel
    have hV1 := h.fr hf (by simpa using hvs) (by simpa using hks)
    have e0 := hV1.blk.cell 0 rfl
    by_cases hlt : (k : Int) < times
    · rcases hans : ans[used + k]? with _ | a
      · have hle : used + k = ans.length := by have : ans.length ≤ used + k := by simpa using hans
                                               omega
        clear hans
        go_wp2_with fail
        refine (inext_ask s ans (used + k) km _ 1 1 _ (hs1.fr0 ((Fr.refl _ _).alloc _)) hle).mono ?_
        rintro e w2 ⟨rfl, d, rfl⟩
        go_wp2
        exact ⟨rfl, _, 1, rfl, (Rd.one _ _ _ _).drewN _, (hf.alloc _).drewN _, Nw.at_ hf.size⟩
      · have hlu : used + k < ans.length := (List.getElem?_eq_some_iff.1 hans).1
        by_cases h2 : told a = 2
        · have := ver_fail (o := o) (t := times.toNat - k) (by omega) hans h2
          rw [hv.out] at this
          cases this
        · have hst := Lib.hid (ver_on (t := times.toNat - k) (o := o) (by omega) hans h2)
          have HA := Lib.hid hans
          have hb2 : (told a == 2) = false := by simpa using h2
          have H2 := Lib.hid h2
          clear hans h2
          by_cases h1 : told a = 1
          · have hb1 : (told a == 1) = true := by simpa using h1
            have hb3 : (told a != 3) = true := by rw [h1]; rfl
            have H1 := Lib.hid h1
            clear h1
            go_wp2_with fail
            refine (inext_got s ans (used + k) km _ a _ (hs1.fr0 ((Fr.refl _ _).alloc _)) HA.out).mono ?_
            rintro e w2 ⟨rfl, hf2, hs2⟩
            go_wp2
            go_roundw
            case rel => exact ⟨k + 1, 1, by omega, by go_num, rfl, by have := hst.out; rw [hv.out, if_pos H1.out] at this; exact this.symm, by omega, hs2, (hf.alloc _).trans hf2⟩
            case measure => simp [intOf]; omega
          · have hb1 : (told a == 1) = false := by simpa using h1
            have h3 : told a = 3 := by have := told_cases a; have := H2.out; omega
            have hb3 : (told a != 3) = false := by rw [h3]; rfl
            have H1 := Lib.hid h1
            clear h1 h3
            go_wp2_with fail
            refine (inext_got s ans (used + k) km _ a _ (hs1.fr0 ((Fr.refl _ _).alloc _)) HA.out).mono ?_
            rintro e w2 ⟨rfl, hf2, hs2⟩
            go_wp2
            go_roundw
            case rel => exact ⟨k + 1, o, by omega, by go_num, rfl, by have := hst.out; rw [hv.out, if_neg H1.out] at this; exact this.symm, by omega, hs2, (hf.alloc _).trans hf2⟩
            case measure => simp [intOf]; omega
    · exfalso
      have := hv.out
      rw [show times.toNat - k = 0 by omega] at this
      simp [ver] at this

set_option maxHeartbeats 1600000 in
theorem of_got (v s kv km : Nat) (times : Int) (m : List (Int × Int)) (ans : List Int) (used : Nat) (n : Int) (w : World) (h : Vers w v s times kv m) (hs : Srch w s ans used km) (hvs : v ≠ s) (hks : kv ≠ s) (hkv : v ≠ kv) (ht1 : 1 ≤ times) (ht9 : times ≤ 9)
    (hu : used ≤ ans.length) (hk : m.lookup n = none) {x : Int} {u : Nat} (hv : ver ans times.toNat used 3 = some (x, u)) :
    Calls Try.prog 41 #[.pointer (some ⟨v, 0, none⟩), .int .i64 n] w (OfGot w v s kv km times m ans n x u) := by
  have c2 := h.blk.cell 2 rfl
  have c1 := h.blk.cell 1 rfl
  have hlk0 := run_lookup_at keyI Try.underlying99 0 (zeroV _) h.map n
  rw [hk] at hlk0
  simp only [Option.getD_none, Option.isSome_none] at hlk0
  have HV := Lib.hid hv
  have HK := Lib.hid hk
  clear hk hv
  go_enter Try.func41, Try.ntmps41
  go_wp2
  go_loopw [7, 24] (fun out i wr => ∃ (k : Nat) (o : Int), (k : Int) ≤ times ∧ i = .int .i64 k ∧ out = .int .u8 o ∧ Hid (ver ans (times.toNat - k) (used + k) o = some (x, u)) ∧ used + k ≤ ans.length ∧ Srch wr s ans (used + k) km ∧ Fr [s] w wr) (fun _ i _ => 9 - (intOf i).toNat)
  case atStart => exact ⟨0, 3, by omega, rfl, rfl, HV, by omega, hs, Fr.refl _ _⟩
  case round =>
    clear hlk0
    obtain ⟨k, o, hkt, rfl, rfl, hv, hul, hs1, hf⟩ := hrel
    have hV1 := h.fr hf (by simpa using hvs) (by simpa using hks)
    have e0 := hV1.blk.cell 0 rfl
    by_cases hlt : (k : Int) < times
    · rcases hans : ans[used + k]? with _ | a
      · exfalso
        have := ver_stop (o := o) (t := times.toNat - k) (by omega) hans
        rw [hv.out] at this
        cases this
      · have hlu : used + k < ans.length := (List.getElem?_eq_some_iff.1 hans).1
        by_cases h2 : told a = 2
        · have hst := ver_fail (o := o) (t := times.toNat - k) (by omega) hans h2
          rw [hv.out] at hst
          simp only [Option.some.injEq, Prod.mk.injEq] at hst
          obtain ⟨hx2, hu2⟩ := hst
          have HX := Lib.hid hx2
          have HU := Lib.hid hu2
          have HA := Lib.hid hans
          have hb2 : (told a == 2) = true := by simpa using h2
          have hb3 : (told a != 3) = true := by rw [h2]; rfl
          have H2 := Lib.hid h2
          clear hans h2 hx2 hu2
          go_wp2_with fail
          refine (inext_got s ans (used + k) km _ a _ (hs1.fr0 ((Fr.refl _ _).alloc _)) HA.out).mono ?_
          rintro e w2 ⟨rfl, hf2, hs2⟩
          have hf02 := (hf.alloc (.cells #[.int .i64 n] 3)).trans hf2
          have hV2 := h.fr hf02 (by simpa using hvs) (by simpa using hks)
          have g2 := hV2.blk.cell 2 rfl
          go_wp2_with (at_mapUpdate; refine wpList_store_new rfl _ _ _ _ rfl keyI Try.underlying99 hV2.map n (told a) rfl rfl rfl HK.out ?_; intro w3 hm3 hf3)
          go_ret
          have hx := HX.out
          have hu' := HU.out
          subst hx hu'
          have hS3 : Srch w3 s ans (used + k + 1) km := by
            obtain ⟨A, c, hb, hr, hn⟩ := hs2.ex
            exact ⟨A, c, hb.fr hf3 (by simpa using hks.symm), hr.fr hf3 (fun h0 a ha => by simpa using hr.apartM hV2.map h0 a ha), hn⟩
          exact ⟨ret_int H2.out, hf02.mono (by simp) |>.trans2 hf3 (by simp), hS3, hV2.blk.fr hf3 (by simpa using hkv), by rw [H2.out] at hm3; exact hm3⟩
        · have hst := Lib.hid (ver_on (t := times.toNat - k) (o := o) (by omega) hans h2)
          have HA := Lib.hid hans
          have hb2 : (told a == 2) = false := by simpa using h2
          have H2 := Lib.hid h2
          clear hans h2
          by_cases h1 : told a = 1
          · have hb1 : (told a == 1) = true := by simpa using h1
            have hb3 : (told a != 3) = true := by rw [h1]; rfl
            have H1 := Lib.hid h1
            clear h1
            go_wp2_with fail
            refine (inext_got s ans (used + k) km _ a _ (hs1.fr0 ((Fr.refl _ _).alloc _)) HA.out).mono ?_
            rintro e w2 ⟨rfl, hf2, hs2⟩
            go_wp2
            go_roundw
            case rel => exact ⟨k + 1, 1, by omega, by go_num, rfl, by have := hst.out; rw [hv.out, if_pos H1.out] at this; exact this.symm, by omega, hs2, (hf.alloc _).trans hf2⟩
            case measure => simp [intOf]; omega
          · have hb1 : (told a == 1) = false := by simpa using h1
            have h3 : told a = 3 := by have := told_cases a; have := H2.out; omega
            have hb3 : (told a != 3) = false := by rw [h3]; rfl
            have H1 := Lib.hid h1
            clear h1 h3
            go_wp2_with fail
            refine (inext_got s ans (used + k) km _ a _ (hs1.fr0 ((Fr.refl _ _).alloc _)) HA.out).mono ?_
            rintro e w2 ⟨rfl, hf2, hs2⟩
            go_wp2
            go_roundw
            case rel => exact ⟨k + 1, o, by omega, by go_num, rfl, by have := hst.out; rw [hv.out, if_neg H1.out] at this; exact this.symm, by omega, hs2, (hf.alloc _).trans hf2⟩
            case measure => simp [intOf]; omega
    · have hst := hv.out
      rw [show times.toNat - k = 0 by omega] at hst
      simp only [ver, Option.some.injEq, Prod.mk.injEq] at hst
      obtain ⟨hx2, hu2⟩ := hst
      have HX := Lib.hid hx2
      have HU := Lib.hid hu2
      clear hx2 hu2
      have g2 := hV1.blk.cell 2 rfl
      go_wp2_with (at_mapUpdate; refine wpList_store_new rfl _ _ _ _ rfl keyI Try.underlying99 hV1.map n o rfl rfl rfl HK.out ?_; intro w3 hm3 hf3)
      go_ret
      have hx := HX.out
      have hu' := HU.out
      subst hx hu'
      have hS3 : Srch w3 s ans (used + k) km := by
        obtain ⟨A, c, hb, hr, hn⟩ := hs1.ex
        exact ⟨A, c, hb.fr hf3 (by simpa using hks.symm), hr.fr hf3 (fun h0 a ha => by simpa using hr.apartM hV1.map h0 a ha), hn⟩
      exact ⟨rfl, hf.mono (by simp) |>.trans2 hf3 (by simp), hS3, hV1.blk.fr hf3 (by simpa using hkv), hm3⟩
end Go.Proofs.Ytjpbmbonccenfaa
