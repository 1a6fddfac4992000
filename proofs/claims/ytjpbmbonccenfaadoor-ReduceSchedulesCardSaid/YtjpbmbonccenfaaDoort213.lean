/- Texts of this seat, one behind the other: Of, IBetw, IBis, IBisect. -/
import Derived.Test.YtjpbmbonccenfaaDoort211
import Derived.Test.YtjpbmbonccenfaaDoort23
import Derived.Deep.LoopGhost
import Derived.Test.YtjpbmbonccenfaaDoort212
/- The verdicts of the program: next, of, judge, between. -/
namespace Go.Proofs.YtjpbmbonccenfaaDoor
open Go.RowKit
set_option linter.unusedVariables false

def NextGot (w : World) (s : Nat) (ans : List Int) (used km : Nat) (a : Int) (e : Ending) (w' : World) : Prop :=
  e = .returned (.int .u8 (told a)) ∧ Fr [s] w w' ∧ Srch w' s ans (used + 1) km
def NextAsk (w : World) (ask : Value) (e : Ending) (w' : World) : Prop := e = .panicked [question ask] ∧ ∃ n, w' = w.drewN n

theorem Srch.fr0 {w w' : World} {s used km : Nat} {ans : List Int} (h : Srch w s ans used km) (hf : Fr [] w w') : Srch w' s ans used km := by
  obtain ⟨A, c, hb, hr, hn⟩ := h.ex
  exact ⟨A, c, hb.fr hf (by simp), hr.fr0 hf, hn⟩
theorem Srch.lt {w : World} {s used km : Nat} {ans : List Int} (h : Srch w s ans used km) : s < w.heap.size := by
  obtain ⟨A, c, hb, hr, hn⟩ := h.ex
  exact hb.lt

set_option maxHeartbeats 800000 in
theorem inext_got (s : Nat) (ans : List Int) (used km : Nat) (C : Value) (a : Int) (w : World) (h : Srch w s ans used km) (ha : ans[used]? = some a) :
    Calls Tryd.prog 106 #[.pointer (some ⟨s, 0, none⟩), C] w (NextGot w s ans used km a) := by
  obtain ⟨A, c, hb, hr, hna⟩ := h.ex
  have hu : used < ans.length := (List.getElem?_eq_some_iff.1 ha).1
  have hbd := hr.bound
  obtain ⟨b1, o1, x, rfl, hx, hc⟩ := hr.at_ hu
  obtain rfl : a = x := by have := ha.symm.trans hx.out; simpa using this
  clear ha
  have c0 := hb.cell 0 rfl
  have c1 := hb.cell 1 rfl
  have f1 := hb.frozen 1
  have hne := hna (by omega) _ rfl
  have hbe : ((used : Int) == ans.length) = false := by simp; omega
  go_enter Tryd.func106, Tryd.ntmps106
  go_wp2
  go_quiet (fail)
  go_wp2
  go_quiet ((go_at_call 116; first | exact quiet_of (plain_any _ _) | exact quiet_add (plain_any _ _)))
  go_wp2
  go_ret
  refine ⟨rfl, (by repeat (first | exact Fr.refl _ _ | assumption | apply Fr.drewN | apply Fr.drew | apply Fr.alloc | refine Fr.setCell ?_ (by simp) _)), ?_⟩
  exact ⟨_, c, ((hb.set_ 1 _).drewN _).drewN _, ((hr.setCell1 (Nat.ne_of_lt hne) _).drewN _).drewN _, hna⟩

theorem run_panic_iface {P : Program} (w : World) (t : TypeId) (v : Value) : (Instr.panic (.iface t v)).run P w = .halt (.panic (.iface t v)) w := rfl

set_option maxHeartbeats 800000 in
theorem inext_ask (s : Nat) (ans : List Int) (used km : Nat) (D : Option Addr) (n d : Nat) (w : World) (h : Srch w s ans used km) (hu : used = ans.length) :
    Calls Tryd.prog 106 #[.pointer (some ⟨s, 0, none⟩), .slice D n d] w (NextAsk w (.slice D n d)) := by
  obtain ⟨A, c, hb, hr, hna⟩ := h.ex
  have hbd := hr.bound
  have c0 := hb.cell 0 rfl
  have c1 := hb.cell 1 rfl
  have hbe : ((used : Int) == ans.length) = true := by simp; omega
  clear hu
  go_enter Tryd.func106, Tryd.ntmps106
  go_wp2
  go_quiet (fail)
  have hp := fun w => run_panic_iface (P := Tryd.prog) w 135 (.agg #[.slice D n d])
  go_wp2
  exact ⟨rfl, rfl, _, rfl⟩

theorem told_cases (a : Int) : told a = 1 ∨ told a = 2 ∨ told a = 3 := by
  unfold told
  split
  · omega
  · omega
theorem keyI : KeyT Tryd.prog 3 (.int .i64) (fun z : Int => Value.int .i64 z) := keyInt Tryd.underlying3
theorem zeroV (w : World) : (zeroValue 39).run Tryd.prog w = .ok (.int .u8 0) w := by kernel_rfl

/-- Block v is the verdicts of the search s: how often a version is asked, and what is known. -/
structure Vers (w : World) (v s : Nat) (times : Int) (kv : Nat) (m : List (Int × Int)) : Prop where
  blk : Blk w v 154 #[.pointer (some ⟨s, 0, none⟩), .int .i64 times, .map (some kv)]
  map : MapAt w kv (Value.int .i64) (Value.int .u8) m

theorem Vers.fr {S : List Nat} {w w' : World} {v s kv : Nat} {times : Int} {m : List (Int × Int)} (h : Vers w v s times kv m) (hf : Fr S w w') (h1 : v ∉ S) (h2 : kv ∉ S) : Vers w' v s times kv m :=
  ⟨h.blk.fr hf h1, h.map.fr hf h2⟩

set_option maxHeartbeats 800000 in
theorem of_known (v s kv : Nat) (times : Int) (m : List (Int × Int)) (n x : Int) (w : World) (h : Vers w v s times kv m) (hk : m.lookup n = some x) :
    Calls Tryd.prog 110 #[.pointer (some ⟨v, 0, none⟩), .int .i64 n] w (RetQ w (.int .u8 x)) := by
  have c2 := h.blk.cell 2 rfl
  have hlk : ∀ d, (Instr.lookup 152 (.map (some kv)) (.int .i64 n) true).run Tryd.prog (w.drewN d) = .ok (.tuple #[.int .u8 x, .bool true]) (w.drewN d) := fun d => by
    have := run_lookup_at (w := w.drewN d) keyI Tryd.underlying152 0 (zeroV _) h.map n
    rw [hk] at this
    exact this
  have hlk0 := hlk 0
  rw [World.drewN_zero] at hlk0
  clear hk
  go_enter Tryd.func110, Tryd.ntmps110
  go_wp2
  go_ret
  exact ⟨rfl, 0, rfl⟩
def OfAsk (w : World) (s : Nat) (n : Int) (e : Ending) (w' : World) : Prop := ∃ A c, e = .panicked [question (.slice A [n].length c)] ∧ Rd w' (.int .i64) A c [n] ∧ Fr [s] w w' ∧ Nw w.heap.size A
def OfGot (w : World) (v s kv km : Nat) (times : Int) (m : List (Int × Int)) (ans : List Int) (n x : Int) (u : Nat) (e : Ending) (w' : World) : Prop :=
  e = .returned (.int .u8 x) ∧ Fr [s, kv] w w' ∧ Srch w' s ans u km ∧ Vers w' v s times kv (m ++ [(n, x)])

set_option maxHeartbeats 1600000 in
theorem of_ask (v s kv km : Nat) (times : Int) (m : List (Int × Int)) (ans : List Int) (used : Nat) (n : Int) (w : World) (h : Vers w v s times kv m) (hs : Srch w s ans used km) (hvs : v ≠ s) (hks : kv ≠ s) (ht1 : 1 ≤ times) (ht9 : times ≤ 9)
    (hu : used ≤ ans.length) (hk : m.lookup n = none) (hv : ver ans times.toNat used 3 = none) :
    Calls Tryd.prog 110 #[.pointer (some ⟨v, 0, none⟩), .int .i64 n] w (OfAsk w s n) := by
  have c2 := h.blk.cell 2 rfl
  have c1 := h.blk.cell 1 rfl
  have hlk0 := run_lookup_at keyI Tryd.underlying152 0 (zeroV _) h.map n
  rw [hk] at hlk0
  simp only [Option.getD_none, Option.isSome_none] at hlk0
  have HV := Lib.hid hv
  clear hk hv
  go_enter Tryd.func110, Tryd.ntmps110
  go_wp2
  go_loopw [7, 24] (fun out i wr => ∃ (k : Nat) (o : Int), (k : Int) ≤ times ∧ i = .int .i64 k ∧ out = .int .u8 o ∧ Hid (ver ans (times.toNat - k) (used + k) o = none) ∧ used + k ≤ ans.length ∧ Srch wr s ans (used + k) km ∧ Fr [s] w wr) (fun _ i _ => 9 - (intOf i).toNat)
  case atStart => exact ⟨0, 3, by omega, rfl, rfl, HV, by omega, hs, Fr.refl _ _⟩
  case round =>
    clear hlk0
    obtain ⟨k, o, hkt, rfl, rfl, hv, hul, hs1, hf⟩ := hrel
    have hV1 := h.fr hf (by simpa using hvs) (by simpa using hks)
    have e0 := hV1.blk.cell 0 rfl
    by_cases hlt : (k : Int) < times
    · rcases hans : ans[used + k]? with _ | a
      · have hle : used + k = ans.length := by have : ans.length ≤ used + k := by simpa using hans
                                               omega
        clear hans
        go_wp2_with fail
        refine (inext_ask s ans (used + k) km _ 1 1 _ (hs1.fr0 ((Fr.refl _ _).alloc _)) hle).mono ?_
        rintro e w2 ⟨rfl, d, rfl⟩
        go_wp2
        exact ⟨rfl, _, 1, rfl, (Rd.one _ _ _ _).drewN _, (hf.alloc _).drewN _, Nw.at_ hf.size⟩
      · have hlu : used + k < ans.length := (List.getElem?_eq_some_iff.1 hans).1
        by_cases h2 : told a = 2
        · have := ver_fail (o := o) (t := times.toNat - k) (by omega) hans h2
          rw [hv.out] at this
          cases this
        · have hst := Lib.hid (ver_on (t := times.toNat - k) (o := o) (by omega) hans h2)
          have HA := Lib.hid hans
          have hb2 : (told a == 2) = false := by simpa using h2
          have H2 := Lib.hid h2
          clear hans h2
          by_cases h1 : told a = 1
          · have hb1 : (told a == 1) = true := by simpa using h1
            have hb3 : (told a != 3) = true := by rw [h1]; rfl
            have H1 := Lib.hid h1
            clear h1
            go_wp2_with fail
            refine (inext_got s ans (used + k) km _ a _ (hs1.fr0 ((Fr.refl _ _).alloc _)) HA.out).mono ?_
            rintro e w2 ⟨rfl, hf2, hs2⟩
            go_wp2
            go_roundw
            case rel => exact ⟨k + 1, 1, by omega, by go_num, rfl, by have := hst.out; rw [hv.out, if_pos H1.out] at this; exact this.symm, by omega, hs2, (hf.alloc _).trans hf2⟩
            case measure => simp [intOf]; omega
          · have hb1 : (told a == 1) = false := by simpa using h1
            have h3 : told a = 3 := by have := told_cases a; have := H2.out; omega
            have hb3 : (told a != 3) = false := by rw [h3]; rfl
            have H1 := Lib.hid h1
            clear h1 h3
            go_wp2_with fail
            refine (inext_got s ans (used + k) km _ a _ (hs1.fr0 ((Fr.refl _ _).alloc _)) HA.out).mono ?_
            rintro e w2 ⟨rfl, hf2, hs2⟩
            go_wp2
            go_roundw
            case rel => exact ⟨k + 1, o, by omega, by go_num, rfl, by have := hst.out; rw [hv.out, if_neg H1.out] at this; exact this.symm, by omega, hs2, (hf.alloc _).trans hf2⟩
            case measure => simp [intOf]; omega
    · exfalso
      have := hv.out
      rw [show times.toNat - k = 0 by omega] at this
      simp [ver] at this

set_option maxHeartbeats 1600000 in
theorem of_got (v s kv km : Nat) (times : Int) (m : List (Int × Int)) (ans : List Int) (used : Nat) (n : Int) (w : World) (h : Vers w v s times kv m) (hs : Srch w s ans used km) (hvs : v ≠ s) (hks : kv ≠ s) (hkv : v ≠ kv) (ht1 : 1 ≤ times) (ht9 : times ≤ 9)
    (hu : used ≤ ans.length) (hk : m.lookup n = none) {x : Int} {u : Nat} (hv : ver ans times.toNat used 3 = some (x, u)) :
    Calls Tryd.prog 110 #[.pointer (some ⟨v, 0, none⟩), .int .i64 n] w (OfGot w v s kv km times m ans n x u) := by
  have c2 := h.blk.cell 2 rfl
  have c1 := h.blk.cell 1 rfl
  have hlk0 := run_lookup_at keyI Tryd.underlying152 0 (zeroV _) h.map n
  rw [hk] at hlk0
  simp only [Option.getD_none, Option.isSome_none] at hlk0
  have HV := Lib.hid hv
  have HK := Lib.hid hk
  clear hk hv
  go_enter Tryd.func110, Tryd.ntmps110
  go_wp2
  go_loopw [7, 24] (fun out i wr => ∃ (k : Nat) (o : Int), (k : Int) ≤ times ∧ i = .int .i64 k ∧ out = .int .u8 o ∧ Hid (ver ans (times.toNat - k) (used + k) o = some (x, u)) ∧ used + k ≤ ans.length ∧ Srch wr s ans (used + k) km ∧ Fr [s] w wr) (fun _ i _ => 9 - (intOf i).toNat)
  case atStart => exact ⟨0, 3, by omega, rfl, rfl, HV, by omega, hs, Fr.refl _ _⟩
  case round =>
    clear hlk0
    obtain ⟨k, o, hkt, rfl, rfl, hv, hul, hs1, hf⟩ := hrel
    have hV1 := h.fr hf (by simpa using hvs) (by simpa using hks)
    have e0 := hV1.blk.cell 0 rfl
    by_cases hlt : (k : Int) < times
    · rcases hans : ans[used + k]? with _ | a
      · exfalso
        have := ver_stop (o := o) (t := times.toNat - k) (by omega) hans
        rw [hv.out] at this
        cases this
      · have hlu : used + k < ans.length := (List.getElem?_eq_some_iff.1 hans).1
        by_cases h2 : told a = 2
        · have hst := ver_fail (o := o) (t := times.toNat - k) (by omega) hans h2
          rw [hv.out] at hst
          simp only [Option.some.injEq, Prod.mk.injEq] at hst
          obtain ⟨hx2, hu2⟩ := hst
          have HX := Lib.hid hx2
          have HU := Lib.hid hu2
          have HA := Lib.hid hans
          have hb2 : (told a == 2) = true := by simpa using h2
          have hb3 : (told a != 3) = true := by rw [h2]; rfl
          have H2 := Lib.hid h2
          clear hans h2 hx2 hu2
          go_wp2_with fail
          refine (inext_got s ans (used + k) km _ a _ (hs1.fr0 ((Fr.refl _ _).alloc _)) HA.out).mono ?_
          rintro e w2 ⟨rfl, hf2, hs2⟩
          have hf02 := (hf.alloc (.cells #[.int .i64 n] 3)).trans hf2
          have hV2 := h.fr hf02 (by simpa using hvs) (by simpa using hks)
          have g2 := hV2.blk.cell 2 rfl
          go_wp2_with (at_mapUpdate; refine wpList_store_new rfl _ _ _ _ rfl keyI Tryd.underlying152 hV2.map n (told a) rfl rfl rfl HK.out ?_; intro w3 hm3 hf3)
          go_ret
          have hx := HX.out
          have hu' := HU.out
          subst hx hu'
          have hS3 : Srch w3 s ans (used + k + 1) km := by
            obtain ⟨A, c, hb, hr, hn⟩ := hs2.ex
            exact ⟨A, c, hb.fr hf3 (by simpa using hks.symm), hr.fr hf3 (fun h0 a ha => by simpa using hr.apartM hV2.map h0 a ha), hn⟩
          exact ⟨ret_int H2.out, hf02.mono (by simp) |>.trans2 hf3 (by simp), hS3, hV2.blk.fr hf3 (by simpa using hkv), by rw [H2.out] at hm3; exact hm3⟩
        · have hst := Lib.hid (ver_on (t := times.toNat - k) (o := o) (by omega) hans h2)
          have HA := Lib.hid hans
          have hb2 : (told a == 2) = false := by simpa using h2
          have H2 := Lib.hid h2
          clear hans h2
          by_cases h1 : told a = 1
          · have hb1 : (told a == 1) = true := by simpa using h1
            have hb3 : (told a != 3) = true := by rw [h1]; rfl
            have H1 := Lib.hid h1
            clear h1
            go_wp2_with fail
            refine (inext_got s ans (used + k) km _ a _ (hs1.fr0 ((Fr.refl _ _).alloc _)) HA.out).mono ?_
            rintro e w2 ⟨rfl, hf2, hs2⟩
            go_wp2
            go_roundw
            case rel => exact ⟨k + 1, 1, by omega, by go_num, rfl, by have := hst.out; rw [hv.out, if_pos H1.out] at this; exact this.symm, by omega, hs2, (hf.alloc _).trans hf2⟩
            case measure => simp [intOf]; omega
          · have hb1 : (told a == 1) = false := by simpa using h1
            have h3 : told a = 3 := by have := told_cases a; have := H2.out; omega
            have hb3 : (told a != 3) = false := by rw [h3]; rfl
            have H1 := Lib.hid h1
            clear h1 h3
            go_wp2_with fail
            refine (inext_got s ans (used + k) km _ a _ (hs1.fr0 ((Fr.refl _ _).alloc _)) HA.out).mono ?_
            rintro e w2 ⟨rfl, hf2, hs2⟩
            go_wp2
            go_roundw
            case rel => exact ⟨k + 1, o, by omega, by go_num, rfl, by have := hst.out; rw [hv.out, if_neg H1.out] at this; exact this.symm, by omega, hs2, (hf.alloc _).trans hf2⟩
            case measure => simp [intOf]; omega
    · have hst := hv.out
      rw [show times.toNat - k = 0 by omega] at hst
      simp only [ver, Option.some.injEq, Prod.mk.injEq] at hst
      obtain ⟨hx2, hu2⟩ := hst
      have HX := Lib.hid hx2
      have HU := Lib.hid hu2
      clear hx2 hu2
      have g2 := hV1.blk.cell 2 rfl
      go_wp2_with (at_mapUpdate; refine wpList_store_new rfl _ _ _ _ rfl keyI Tryd.underlying152 hV1.map n o rfl rfl rfl HK.out ?_; intro w3 hm3 hf3)
      go_ret
      have hx := HX.out
      have hu' := HU.out
      subst hx hu'
      have hS3 : Srch w3 s ans (used + k) km := by
        obtain ⟨A, c, hb, hr, hn⟩ := hs1.ex
        exact ⟨A, c, hb.fr hf3 (by simpa using hks.symm), hr.fr hf3 (fun h0 a ha => by simpa using hr.apartM hV1.map h0 a ha), hn⟩
      exact ⟨rfl, hf.mono (by simp) |>.trans2 hf3 (by simp), hS3, hV1.blk.fr hf3 (by simpa using hkv), hm3⟩
end Go.Proofs.YtjpbmbonccenfaaDoor

/- The verdicts of the program: judge, between. -/
namespace Go.Proofs.YtjpbmbonccenfaaDoor
open Go.RowKit
set_option linter.unusedVariables false

def JudgePost (w : World) (s : Nat) (times : Int) (e : Ending) (w' : World) : Prop :=
  e = .returned (.pointer (some ⟨w.heap.size + 1, 0, none⟩)) ∧ Fr [] w w' ∧ Vers w' (w.heap.size + 1) s (timesOf times) w.heap.size []

theorem judge_any (s : Nat) (times : Int) (w : World) :
    Calls Tryd.prog 109 #[.pointer (some ⟨s, 0, none⟩), .int .i64 times] w (JudgePost w s times) := by
  have hmm := @run_makeMap Tryd.prog
  by_cases h1 : times < 1
  · have hT := Lib.hid (show timesOf times = 1 by unfold timesOf; omega)
    go_enter Tryd.func109, Tryd.ntmps109
    go_wp2
    go_ret
    refine ⟨rfl, ((Fr.refl _ _).alloc _).alloc _, ?_, ?_⟩
    · rw [hT.out]; exact Blk.new _ _ _ _ (by simp)
    · exact (MapAt.new _ _ _ _ rfl).fr0 ((Fr.refl _ _).alloc _)
  · by_cases h9 : 9 < times
    · have hT := Lib.hid (show timesOf times = 9 by unfold timesOf; omega)
      go_enter Tryd.func109, Tryd.ntmps109
      go_wp2
      go_ret
      refine ⟨rfl, ((Fr.refl _ _).alloc _).alloc _, ?_, ?_⟩
      · rw [hT.out]; exact Blk.new _ _ _ _ (by simp)
      · exact (MapAt.new _ _ _ _ rfl).fr0 ((Fr.refl _ _).alloc _)
    · have hT := Lib.hid (show timesOf times = times by unfold timesOf; omega)
      go_enter Tryd.func109, Tryd.ntmps109
      go_wp2
      go_ret
      refine ⟨rfl, ((Fr.refl _ _).alloc _).alloc _, ?_, ?_⟩
      · rw [hT.out]; exact Blk.new _ _ _ _ (by simp)
      · exact (MapAt.new _ _ _ _ rfl).fr0 ((Fr.refl _ _).alloc _)

/-- Is a version known? -/
def isKn (m : List (Int × Int)) (i : Int) : Bool := (m.lookup i).isSome
def Hit (kn : Int → Bool) (low high x : Int) : Prop := low < x ∧ x < high ∧ kn x = false
theorem betwAt_up {kn : Int → Bool} {low high m d : Int} (h : Hit kn low high (m + d)) : betwAt kn low high m d = some (m + d) := by unfold betwAt; unfold Hit at h; rw [if_pos h]
theorem betwAt_down {kn : Int → Bool} {low high m d : Int} (h0 : ¬ Hit kn low high (m + d)) (h : Hit kn low high (m - d)) : betwAt kn low high m d = some (m - d) := by unfold betwAt; unfold Hit at h h0; rw [if_neg h0, if_pos h]
theorem betwAt_none {kn : Int → Bool} {low high m d : Int} (h0 : ¬ Hit kn low high (m + d)) (h : ¬ Hit kn low high (m - d)) : betwAt kn low high m d = none := by unfold betwAt; unfold Hit at h h0; rw [if_neg h0, if_neg h]

/-- What one element of the pair comes to. -/
theorem hit_ways (kn : Int → Bool) (low high x : Int) : (kn x = true ∧ ¬ Hit kn low high x) ∨ (kn x = false ∧ ¬ low < x ∧ ¬ Hit kn low high x) ∨ (kn x = false ∧ low < x ∧ ¬ x < high ∧ ¬ Hit kn low high x) ∨ (kn x = false ∧ low < x ∧ x < high ∧ Hit kn low high x) := by
  unfold Hit
  cases h : kn x <;> by_cases h1 : low < x <;> by_cases h2 : x < high <;> simp [h1, h2]

set_option maxHeartbeats 3200000 in
theorem ibetween_any (v s kv : Nat) (times : Int) (mp : List (Int × Int)) (low high : Int) (w : World) (h : Vers w v s times kv mp) (h0 : 0 ≤ low) (h1 : low ≤ high) (h3 : high ≤ 1000000) :
    Calls Tryd.prog 111 #[.pointer (some ⟨v, 0, none⟩), .int .i64 low, .int .i64 high] w (RetV w (.int .i64 (betw (isKn mp) low high))) := by
  go_enter Tryd.func111, Tryd.ntmps111
  go_wp2
  generalize hm : (low + high) / 2 = m
  have hm1 : low ≤ m := by omega
  have hm2 : m ≤ high := by omega
  have hB : Hid (betw (isKn mp) low high = betwFrom (isKn mp) low high m (high - low + 1).toNat 0) := by subst hm; exact rfl
  clear hm
  go_loopw [8] (fun i wr => ∃ d : Nat, (d : Int) ≤ high - low + 1 ∧ i = .int .i64 d ∧ Hid (betw (isKn mp) low high = betwFrom (isKn mp) low high m (high - low + 1 - d).toNat d) ∧ Fr [] w wr) (fun i _ => (high - low + 1 - intOf i).toNat)
  case atStart => exact ⟨0, by omega, rfl, by show _ = _; rw [hB.out]; simp, Fr.refl _ _⟩
  case round =>
    obtain ⟨d, hd, rfl, hbw, hf⟩ := hrel
    clear hB
    by_cases hlt : (d : Int) ≤ high - low
    · obtain ⟨wo, hwo⟩ : ∃ wo : World, wo = wr := ⟨_, rfl⟩
      subst hwo
      go_wp2
      have hf1 : Fr [] w (wo.alloc (.cells #[.int .i64 (m + d), .int .i64 (m - d)] 3)) := hf.alloc _
      have hp := Rd.two wo 3 (Value.int .i64) (m + d) (m - d)
      generalize wo.alloc (.cells #[.int .i64 (m + d), .int .i64 (m - d)] 3) = w1 at hf1 hp
      generalize wo.heap.size = H at hp
      have hv1 := h.fr hf1 (by simp) (by simp)
      have c2 := hv1.blk.cell 2 rfl
      have p0 := hp.two0
      have p1 := hp.two1
      have hlk := fun x : Int => run_lookup_at keyI Tryd.underlying152 0 (zeroV _) hv1.map x
      have hlk0 := hlk (m + d)
      have hlk1 := hlk (m - d)
      rw [show (mp.lookup (m + d)).isSome = isKn mp (m + d) from rfl] at hlk0
      rw [show (mp.lookup (m - d)).isSome = isKn mp (m - d) from rfl] at hlk1
      clear hlk
      go_loop [32] (fun i => ∃ k : Nat, k ≤ 2 ∧ i = .int .i64 k ∧ Hid (1 ≤ k → ¬ Hit (isKn mp) low high (m + d)) ∧ Hid (2 ≤ k → ¬ Hit (isKn mp) low high (m - d))) (fun i => 2 - (intOf i).toNat)
      case atStart => exact ⟨0, by omega, rfl, fun h => by omega, fun h => by omega⟩
      case round =>
        obtain ⟨k, hk, rfl, g0, g1⟩ := hrel
        by_cases hk0 : k = 0
        · subst hk0
          rcases hit_ways (isKn mp) low high (m + d) with ⟨a1, a4⟩ | ⟨a1, a2, a4⟩ | ⟨a1, a2, a3, a4⟩ | ⟨a1, a2, a3, a4⟩
          · have H4 := Lib.hid a4
            clear a4
            go_wp2
            go_round
            case rel => exact ⟨1, by omega, rfl, fun _ => H4.out, fun h => by omega⟩
            case measure => simp [intOf]
          · have H4 := Lib.hid a4
            clear a4
            have e1 : decide (low < m + d) = false := by simpa using a2
            go_wp2
            go_round
            case rel => exact ⟨1, by omega, rfl, fun _ => H4.out, fun h => by omega⟩
            case measure => simp [intOf]
          · have H4 := Lib.hid a4
            clear a4
            have e1 : decide (low < m + d) = true := by simpa using a2
            have e2 : decide (m + d < high) = false := by simpa using a3
            go_wp2
            go_round
            case rel => exact ⟨1, by omega, rfl, fun _ => H4.out, fun h => by omega⟩
            case measure => simp [intOf]
          · have HN := Lib.hid (betw_hit (t := (high - low + 1 - d).toNat) (by omega) (betwAt_up a4))
            clear a4
            have e1 : decide (low < m + d) = true := by simpa using a2
            have e2 : decide (m + d < high) = true := by simpa using a3
            go_wp2
            go_ret
            exact ⟨ret_int (by rw [hbw.out, HN.out]), hf1⟩
        · by_cases hk1 : k = 1
          · subst hk1
            have hno := g0.out (by omega)
            have HNO := Lib.hid hno
            clear hno
            rcases hit_ways (isKn mp) low high (m - d) with ⟨a1, a4⟩ | ⟨a1, a2, a4⟩ | ⟨a1, a2, a3, a4⟩ | ⟨a1, a2, a3, a4⟩
            · have H4 := Lib.hid a4
              clear a4
              go_wp2
              go_round
              case rel => exact ⟨2, by omega, rfl, fun _ => HNO.out, fun _ => H4.out⟩
              case measure => simp [intOf]
            · have H4 := Lib.hid a4
              clear a4
              have e1 : decide (low < m - d) = false := by simpa using a2
              go_wp2
              go_round
              case rel => exact ⟨2, by omega, rfl, fun _ => HNO.out, fun _ => H4.out⟩
              case measure => simp [intOf]
            · have H4 := Lib.hid a4
              clear a4
              have e1 : decide (low < m - d) = true := by simpa using a2
              have e2 : decide (m - d < high) = false := by simpa using a3
              go_wp2
              go_round
              case rel => exact ⟨2, by omega, rfl, fun _ => HNO.out, fun _ => H4.out⟩
              case measure => simp [intOf]
            · have HN := Lib.hid (betw_hit (t := (high - low + 1 - d).toNat) (by omega) (betwAt_down HNO.out a4))
              clear a4
              have e1 : decide (low < m - d) = true := by simpa using a2
              have e2 : decide (m - d < high) = true := by simpa using a3
              go_wp2
              go_ret
              exact ⟨ret_int (by rw [hbw.out, HN.out]), hf1⟩
          · obtain rfl : k = 2 := by omega
            have hno := betw_miss (t := (high - low + 1 - d).toNat) (by omega) (betwAt_none (g0.out (by omega)) (g1.out (by omega)))
            have HN := Lib.hid hno
            clear hno hlk0 hlk1 p0 p1
            go_wp2
            go_roundw
            case rel => exact ⟨d + 1, by omega, by go_num, by show _ = _; rw [hbw.out, HN.out]; congr 1; omega, hf1⟩
            case measure => simp [intOf]; omega
    · have hfin := Lib.hid (betw_end (kn := isKn mp) (low := low) (high := high) (m := m) (d := d) (show (high - low + 1 - d).toNat = 0 by omega))
      go_wp2
      go_ret
      exact ⟨ret_int (by rw [hbw.out, hfin.out]), hf⟩
end Go.Proofs.YtjpbmbonccenfaaDoor

/- The program's Bisect: the search that it hands to run. -/
namespace Go.Proofs.YtjpbmbonccenfaaDoor
open Go.RowKit
set_option linter.unusedVariables false

/-- The loop: a question, or low, high and how many answers were used. -/
def bisI (ans : List Int) (T : Nat) : Nat → (Int → Bool) → Int → Int → Nat → Option (Int ⊕ (Int × Int × Int × Nat))
  | 0, _, _, _, _ => none
  | t + 1, kn, lo, hi, used =>
    let v := betw kn lo hi
    if v < 0 then some (.inr (0, lo, hi, used)) else match ver ans T used 3 with
      | none => some (.inl v)
      | some (x, u) => bisI ans T t (fun i => i == v || kn i) (if x = 1 then v else lo) (if x = 2 then v else hi) u
def bisAll (N : Nat) (T : Nat) (ans : List Int) : Option (Int ⊕ (Int × Int × Int × Nat)) :=
  match ver ans T 0 3 with
  | none => some (.inl 0)
  | some (x, u) => if x ≠ 1 then some (.inr (7, 0, N - 1, u)) else match ver ans T u 3 with
    | none => some (.inl (N - 1))
    | some (y, u') => if y ≠ 2 then some (.inr (7, 0, N - 1, u')) else bisI ans T (N + 1) kn0 0 (N - 1) u'

/-- What it comes to. -/
def finB (ans : List Int) : Option (Int ⊕ (Int × Int × Int × Nat)) → Qst × Int
  | none => (qNone, 0)
  | some (.inl v) => (⟨false, [v], [], []⟩, 0)
  | some (.inr (e, lo, hi, u)) => endOf false [] e (decide (u < ans.length)) [lo, hi] []
theorem bisI_fin (ans : List Int) (T : Nat) : ∀ (t : Nat) (kn : Int → Bool) (lo hi : Int) (u : Nat), bisLoop ans T t kn lo hi u = finB ans (bisI ans T t kn lo hi u)
  | 0, _, _, _, _ => rfl
  | t + 1, kn, lo, hi, u => by
    simp only [bisLoop, bisI]
    by_cases hv : betw kn lo hi < 0
    · rw [if_pos hv, if_pos hv]; rfl
    · rw [if_neg hv, if_neg hv]
      rcases ver ans T u 3 with _ | ⟨x, u'⟩
      · rfl
      · exact bisI_fin ans T t _ _ _ _
theorem bisect_fin {n times : Int} {ans : List Int} {N : Nat} (hN : n = N) (h2 : 2 ≤ n) (h3 : n ≤ 256) (h4 : ans.length ≤ 4096) : bisect n times ans = finB ans (bisAll N (timesOf times).toNat ans) := by
  subst hN
  unfold bisect bisAll
  rw [if_neg (by omega), if_neg (by omega)]
  rcases ver ans (timesOf times).toNat 0 3 with _ | ⟨x, u⟩
  · rfl
  · by_cases hx : x = 1
    · simp only [hx, ne_eq, not_true_eq_false, if_false]
      rcases ver ans (timesOf times).toNat u 3 with _ | ⟨y, u'⟩
      · rfl
      · by_cases hy : y = 2
        · simp only [hy, not_true_eq_false, if_false]
          exact bisI_fin _ _ _ _ _ _ _
        · simp [hy, finB, endOf, qNone]
    · simp [hx, finB, endOf, qNone]

theorem betwFrom_congr {kn kn' : Int → Bool} {low high : Int} (h : ∀ i, low < i → i < high → kn i = kn' i) (m : Int) : ∀ (t : Nat) (d : Int), betwFrom kn low high m t d = betwFrom kn' low high m t d
  | 0, _ => rfl
  | t + 1, d => by
    have e : betwAt kn low high m d = betwAt kn' low high m d := by
      unfold betwAt
      have a1 : (low < m + d ∧ m + d < high ∧ kn (m + d) = false) ↔ (low < m + d ∧ m + d < high ∧ kn' (m + d) = false) :=
        ⟨fun ⟨x, y, z⟩ => ⟨x, y, by rw [← h _ x y]; exact z⟩, fun ⟨x, y, z⟩ => ⟨x, y, by rw [h _ x y]; exact z⟩⟩
      have a2 : (low < m - d ∧ m - d < high ∧ kn (m - d) = false) ↔ (low < m - d ∧ m - d < high ∧ kn' (m - d) = false) :=
        ⟨fun ⟨x, y, z⟩ => ⟨x, y, by rw [← h _ x y]; exact z⟩, fun ⟨x, y, z⟩ => ⟨x, y, by rw [h _ x y]; exact z⟩⟩
      simp only [a1, a2]
    unfold betwFrom
    rw [e]
    split
    · rfl
    · exact betwFrom_congr h m t (d + 1)
theorem betw_congr {kn kn' : Int → Bool} {low high : Int} (h : ∀ i, low < i → i < high → kn i = kn' i) : betw kn low high = betw kn' low high := betwFrom_congr h _ _ _

theorem Blk.ne_ {w : World} {a b : Nat} {t t' : TypeId} {cs cs' : Array Value} (h : Blk w a t cs) (h' : Blk w b t' cs') (hne : t ≠ t') : a ≠ b := by
  rintro rfl
  unfold Blk at h h'
  rw [h] at h'
  injection h' with h'
  injection h' with _ ht
  exact hne ht

/-- Two variables hold numbers. -/
def TwoBoxes (bl bh : Nat) (W : World) : Prop := ∃ lo hi : Int, Blk W bl 3 #[.int .i64 lo] ∧ Blk W bh 3 #[.int .i64 hi]
def BisDo (w1 : World) (s km bl bh : Nat) (ans : List Int) (o : Option (Int ⊕ (Int × Int × Int × Nat))) (e : Ending) (w' : World) : Prop :=
  match o with
  | none => False
  | some (.inl v) => DoAsk w1 s km [bl, bh] (TwoBoxes bl bh) [v] e w'
  | some (.inr (er, lo, hi, u)) => DoEnd w1 s km ans [bl, bh] (fun W => Blk W bl 3 #[.int .i64 lo] ∧ Blk W bh 3 #[.int .i64 hi]) er u e w'

theorem lookup1 {a x n : Int} (h : n ≠ a) : List.lookup n [(a, x)] = none := by simp [List.lookup, beq_eq_false_iff_ne.2 h]
theorem isKn_snoc (m : List (Int × Int)) (v x i : Int) : isKn (m ++ [(v, x)]) i = (isKn m i || (i == v)) := by
  unfold isKn
  rw [lookup_snoc]
  cases h : m.lookup i <;> by_cases h2 : i = v <;> simp [h2]

theorem sub3 {s km bl bh : Nat} : ∀ x ∈ [s, bl, bh], x ∈ s :: km :: [bl, bh] := by
  intro x hx
  simp at hx ⊢
  rcases hx with h | h | h
  · exact .inl h
  · exact .inr (.inr (.inl h))
  · exact .inr (.inr (.inr h))
/-- Between two rounds of the program's loop. -/
def IBisInv (w1 : World) (N : Nat) (T : Int) (ans : List Int) (s km bl bh v kv : Nat) (t : Nat) (wr : World) : Prop :=
  ∃ (kn : Int → Bool) (bs : List Bool) (m : List (Int × Int)) (lo hi : Int) (u : Nat), 0 ≤ lo ∧ lo < hi ∧ hi < N ∧ u ≤ ans.length ∧ bs.length = N ∧ Hid (Known kn bs) ∧ t = bs.count false + 1 ∧
    Hid (∀ i, 0 < i → i < (N : Int) - 1 → kn i = isKn m i) ∧ Hid (bisAll N T.toNat ans = bisI ans T.toNat t kn lo hi u) ∧ Srch wr s ans u km ∧ Vers wr v s T kv m ∧ Blk wr bl 3 #[.int .i64 lo] ∧ Blk wr bh 3 #[.int .i64 hi] ∧ Fr [s, bl, bh] w1 wr

theorem notU8 {z : Int} (i : Nat) (u : Value) (h : (#[Value.int .i64 z] : Array Value)[i]? = some u) (x : Int) : u ≠ .int .u8 x := by
  match i, h with
  | 0, h => simp at h; subst h; simp
theorem Srch.far {w : World} {s used km b : Nat} {ans : List Int} {t : TypeId} {z : Int} (h : Srch w s ans used km) (hb : Blk w b t #[.int .i64 z]) (hne : s ≠ b) (u : Value) : Srch (w.setCell ⟨b, 0, none⟩ u) s ans used km := by
  obtain ⟨A, c, hs, hr, hn⟩ := h.ex
  exact ⟨A, c, hs.far (p := ⟨b, 0, none⟩) hne u, hr.setCell (p := ⟨b, 0, none⟩) (hr.apart hb notU8) u, hn⟩
theorem Vers.far {w : World} {v s kv b : Nat} {times : Int} {m : List (Int × Int)} {t : TypeId} {z : Int} (h : Vers w v s times kv m) (hb : Blk w b t #[.int .i64 z]) (hne : v ≠ b ∧ kv ≠ b) (u : Value) : Vers (w.setCell ⟨b, 0, none⟩ u) v s times kv m :=
  ⟨h.blk.far (p := ⟨b, 0, none⟩) hne.1 u, h.map.fr ((Fr.refl [b] w).setCell (p := ⟨b, 0, none⟩) (.inl (by simp)) u) (by simpa using hne.2)⟩
theorem ibis_next {w1 wr : World} {N : Nat} {T : Int} {ans : List Int} {s km bl bh v kv : Nat} {kn : Int → Bool} {bs : List Bool} {m : List (Int × Int)} {lo hi lo' hi' at_ x : Int} {u2 : Nat}
    (hstep : Hid (bisAll N T.toNat ans = bisI ans T.toNat (bs.count false) (fun i => i == at_ || kn i) (if x = 1 then at_ else lo) (if x = 2 then at_ else hi) u2))
    (hkn2 : Hid (Known (fun i => i == at_ || kn i) (bs.set at_.toNat true))) (hcnt : Hid ((bs.set at_.toNat true).count false + 1 = bs.count false))
    (hag : Hid (∀ i, 0 < i → i < (N : Int) - 1 → (i == at_ || kn i) = isKn (m ++ [(at_, x)]) i)) (hs : Srch wr s ans u2 km) (hv : Vers wr v s T kv (m ++ [(at_, x)])) (hbl : Blk wr bl 3 #[.int .i64 lo']) (hbh : Blk wr bh 3 #[.int .i64 hi']) (hf : Fr [s, bl, bh] w1 wr)
    (hlo : 0 ≤ lo) (hhi : hi < N) (hv1 : lo < at_) (hv2 : at_ < hi) (hbs : bs.length = N) (hu : u2 ≤ ans.length) (hl : lo' = if x = 1 then at_ else lo) (hh : hi' = if x = 2 then at_ else hi) : IBisInv w1 N T ans s km bl bh v kv (bs.count false) wr := by
  refine ⟨fun i => i == at_ || kn i, bs.set at_.toNat true, _, lo', hi', u2, ?_, ?_, ?_, hu, by simp [hbs], hkn2, hcnt.out.symm, hag, ?_, hs, hv, hbl, hbh, hf⟩
  · rw [hl]; split <;> omega
  · rw [hl, hh]; split <;> split <;> omega
  · rw [hh]; split <;> omega
  · rw [hl, hh]; exact hstep

set_option maxRecDepth 100000 in
set_option maxHeartbeats 1600000 in
theorem bisdo_any (s km bt bl bh N : Nat) (times : Int) (ans : List Int) (w1 : World) (hs : Srch w1 s ans 0 km) (hbt : Blk w1 bt 3 #[.int .i64 times]) (hbl : Blk w1 bl 3 #[.int .i64 0]) (hbh : Blk w1 bh 3 #[.int .i64 ((N : Int) - 1)])
    (hlh : bl ≠ bh) (h2 : 2 ≤ N) (h3 : N ≤ 256) :
    Calls Tryd.prog 108 #[.pointer (some ⟨s, 0, none⟩), .pointer (some ⟨bt, 0, none⟩), .pointer (some ⟨bl, 0, none⟩), .pointer (some ⟨bh, 0, none⟩)] w1 (BisDo w1 s km bl bh ans (bisAll N (timesOf times).toNat ans)) := by
  have ct := hbt.cell 0 rfl
  have hT := timesOf_le times
  obtain ⟨hT1, hT9⟩ := hT
  have hsl : bl ≠ s := by
    obtain ⟨_, _, hb, _⟩ := hs.ex
    exact hbl.ne_ hb (by decide)
  have hsh : bh ≠ s := by
    obtain ⟨_, _, hb, _⟩ := hs.ex
    exact hbh.ne_ hb (by decide)
  have hll := hbl.lt
  have hlh2 := hbh.lt
  have hsL := hs.lt
  go_enter Tryd.func108, Tryd.ntmps108
  go_wp2_with fail
  refine (judge_any s times w1).mono ?_
  rintro e w2 ⟨rfl, hf2, hv2⟩
  have hs2 := hs.fr0 hf2
  have hbl2 := hbl.fr hf2 (by simp)
  have hbh2 := hbh.fr hf2 (by simp)
  have cl2 := hbl2.cell 0 rfl
  generalize hvb : w1.heap.size + 1 = v at hv2
  have hvl : w1.heap.size < v := by omega
  clear hvb ct
  generalize hkb : w1.heap.size = kv at hv2
  have hks : kv ≠ s := by omega
  have hvs : v ≠ s := by omega
  have hvk : v ≠ kv := by omega
  have hkl : w1.heap.size ≤ kv := by omega
  clear hkb
  generalize hTe : timesOf times = T at *
  rcases hv : ver ans T.toNat 0 3 with _ | ⟨x, u⟩
  · have HV := Lib.hid hv
    clear hv
    go_wp2_with fail
    refine (of_ask v s kv km T [] ans 0 0 _ hv2 hs2 hvs hks (by omega) (by omega) (by omega) rfl HV.out).mono ?_
    rintro e w3 ⟨A3, c3, rfl, hr3, hf3, hnw⟩
    go_wp2
    rw [show bisAll N T.toNat ans = some (.inl 0) by have := HV.out; simp [bisAll, this]]
    have hf13 : Fr [s] w1 w3 := (hf2.mono (by simp)).trans2 hf3 (by simp)
    exact ⟨rfl, A3, c3, rfl, hr3, hf13.mono (by simp), hnw.mono hf2.size, 0, N - 1, hbl.fr hf13 (by simpa using hsl), hbh.fr hf13 (by simpa using hsh)⟩
  · have HV := Lib.hid hv
    have hu := ver_used hv (by omega)
    clear hv
    by_cases hx : x = 1
    · have hxb : (x != 1) = false := by simp [hx]
      have HX := Lib.hid hx
      clear hx
      go_wp2_with fail
      refine (of_got v s kv km T [] ans 0 0 _ hv2 hs2 hvs hks hvk (by omega) (by omega) (by omega) rfl HV.out).mono ?_
      rintro e w3 ⟨rfl, hf3, hs3, hv3⟩
      have hf13 : Fr [s] w1 w3 := (hf2.mono (by simp)).trans2 hf3 (by simp; omega)
      have hbl3 := hbl.fr hf13 (by simpa using hsl)
      have hbh3 := hbh.fr hf13 (by simpa using hsh)
      have ch3 := hbh3.cell 0 rfl
      rcases hv' : ver ans T.toNat u 3 with _ | ⟨y, u'⟩
      · have HV2 := Lib.hid hv'
        clear hv'
        go_wp2_with fail
        refine (of_ask v s kv km T _ ans u ((N : Int) - 1) _ hv3 hs3 hvs hks (by omega) (by omega) (by omega) (lookup1 (by omega)) HV2.out).mono ?_
        rintro e w4 ⟨A4, c4, rfl, hr4, hf4, hnw⟩
        go_wp2
        rw [show bisAll N T.toNat ans = some (.inl (N - 1)) by
          have h5 := HV.out
          have h6 := HV2.out
          have h7 := HX.out
          simp [bisAll, h5, h6, h7]]
        have hf14 : Fr [s] w1 w4 := hf13.trans2 hf4 (by simp)
        exact ⟨rfl, A4, c4, rfl, hr4, hf14.mono (by simp), hnw.mono hf13.size, 0, N - 1, hbl.fr hf14 (by simpa using hsl), hbh.fr hf14 (by simpa using hsh)⟩
      · have HV2 := Lib.hid hv'
        have hu2 := ver_used hv' (by omega)
        clear hv'
        by_cases hy : y = 2
        · have hyb : (y != 2) = false := by simp [hy]
          have HY := Lib.hid hy
          clear hy
          go_wp2_with fail
          refine (of_got v s kv km T _ ans u ((N : Int) - 1) _ hv3 hs3 hvs hks hvk (by omega) (by omega) (by omega) (lookup1 (by omega)) HV2.out).mono ?_
          rintro e w4 ⟨rfl, hf4, hs4, hv4⟩
          have hf14 : Fr [s] w1 w4 := hf13.trans2 hf4 (by simp; omega)
          have hI : IBisInv w1 N T ans s km bl bh v kv (N + 1) w4 := by
            refine ⟨kn0, List.replicate N false, [(0, 1), ((N : Int) - 1, 2)], 0, N - 1, u', by omega, by omega, by omega, by omega, by simp, fun i hi => ?_, by simp, fun i h1 h2 => ?_, ?_, hs4, ?_, hbl.fr hf14 (by simpa using hsl), hbh.fr hf14 (by simpa using hsh), hf14.mono (by simp)⟩
            · simp at hi; simp [kn0, hi]
            · have a1 : (i == 0) = false := by simp; omega
              have a2 : (i == (N : Int) - 1) = false := by simp; omega
              simp [kn0, isKn, List.lookup, a1, a2]
            · show bisAll N T.toNat ans = _
              have h5 := HV.out
              have h6 := HV2.out
              have h7 := HX.out
              have h8 := HY.out
              simp [bisAll, h5, h6, h7, h8]
            · have h7 := HX.out
              have h8 := HY.out
              rw [h7, h8] at hv4
              exact hv4
          go_wp2_with fail
          clear hv4 hs4 hf14 hf4 hbl3 hbh3 ch3 hv3 hs3 hf13 hf3 hbl2 hbh2 cl2 hs2 hv2 hf2 hxb hyb
          go_loopg [] (N + 1) (IBisInv w1 N T ans s km bl bh v kv)
          case atStart => exact hI
          case round =>
            clear hI
            obtain ⟨kn, bs, m, lo, hi, ur, hlo, hlh', hhi, hur, hbs, hkn, ht, hag, hbi, hsr, hvr, hblr, hbhr, hfr⟩ := hrel
            obtain rfl := ht
            have cl := hblr.cell 0 rfl
            have ch := hbhr.cell 0 rfl
            go_wp2_with fail
            refine (ibetween_any v s kv T m lo hi _ hvr hlo (by omega) (by omega)).mono ?_
            rintro e w5 ⟨rfl, hf5⟩
            have hcg := betw_congr (kn := isKn m) (kn' := kn) (low := lo) (high := hi) (fun i h1 h2 => (hag.out i (by omega) (by omega)).symm)
            rw [hcg]
            have hbw : Hid (0 ≤ betw kn lo hi → _) := betw_range (kn := kn) (low := lo) (high := hi)
            generalize hvv : betw kn lo hi = at_ at hbw
            have HVV := Lib.hid hvv
            clear hvv hcg
            have hs5 := hsr.fr0 hf5
            have hv5 := hvr.fr hf5 (by simp) (by simp)
            have hbl5 := hblr.fr hf5 (by simp)
            have hbh5 := hbhr.fr hf5 (by simp)
            have hf15 := hfr.trans0 hf5
            by_cases hneg : at_ < 0
            · go_wp2
              go_ret
              rw [show bisAll N T.toNat ans = some (.inr (0, lo, hi, ur)) by
                rw [hbi.out]; simp only [bisI, HVV.out, if_pos (show at_ < 0 by omega)]]
              exact ⟨rfl, hs5, hf15.mono sub3, hbl5, hbh5⟩
            · obtain ⟨hv1, hv2, hv3⟩ := hbw.out (by omega)
              have HV3 := Lib.hid hv3
              have hlk : m.lookup at_ = none := by
                have := hag.out at_ (by omega) (by omega)
                rw [hv3] at this
                unfold isKn at this
                cases hh : m.lookup at_ with
                | none => rfl
                | some z => rw [hh] at this; cases this
              have HLK := Lib.hid hlk
              clear hv3 hbw hlk
              rcases hver : ver ans T.toNat ur 3 with _ | ⟨x, u2⟩
              · have HVE := Lib.hid hver
                clear hver
                go_wp2_with fail
                refine (of_ask v s kv km T m ans ur at_ _ hv5 hs5 hvs hks (by omega) (by omega) (by omega) HLK.out HVE.out).mono ?_
                rintro e w6 ⟨A6, c6, rfl, hr6, hf6, hnw⟩
                go_wp2
                rw [show bisAll N T.toNat ans = some (.inl at_) by
                  rw [hbi.out]; simp only [bisI, HVV.out, if_neg (show ¬ at_ < 0 by omega), HVE.out]]
                exact ⟨rfl, A6, c6, rfl, hr6, (hf15.mono sub3).trans2 hf6 (by simp), hnw.mono hf15.size, lo, hi, hbl5.fr hf6 (by simpa using hsl), hbh5.fr hf6 (by simpa using hsh)⟩
              · have HVE := Lib.hid hver
                have hu2 := ver_used hver hur
                clear hver
                have hvl2 : at_.toNat < bs.length := by omega
                have hbv := hkn.out at_.toNat hvl2
                rw [show ((at_.toNat : Nat) : Int) = at_ by omega, HV3.out] at hbv
                have HBV := Lib.hid hbv
                clear hbv
                have hstep : Hid (bisAll N T.toNat ans = bisI ans T.toNat (bs.count false) (fun i => i == at_ || kn i) (if x = 1 then at_ else lo) (if x = 2 then at_ else hi) u2) := by
                  show bisAll N T.toNat ans = _
                  rw [hbi.out]; simp only [bisI, HVV.out, if_neg (show ¬ at_ < 0 by omega), HVE.out]
                have hcnt : Hid ((bs.set at_.toNat true).count false + 1 = bs.count false) := count_set HBV.out
                have hkn2 : Hid (Known (fun i => i == at_ || kn i) (bs.set at_.toNat true)) := known_set hkn.out (by omega)
                have hag2 : Hid (∀ i, 0 < i → i < (N : Int) - 1 → (i == at_ || kn i) = isKn (m ++ [(at_, x)]) i) := by
                  show ∀ i, 0 < i → i < (N : Int) - 1 → (i == at_ || kn i) = isKn (m ++ [(at_, x)]) i
                  intro i h1 h2
                  rw [isKn_snoc, hag.out i h1 h2, Bool.or_comm]
                go_wp2_with fail
                refine (of_got v s kv km T m ans ur at_ _ hv5 hs5 hvs hks hvk (by omega) (by omega) (by omega) HLK.out HVE.out).mono ?_
                rintro e w6 ⟨rfl, hf6, hs6, hv6⟩
                have hf16 : Fr [s, bl, bh] w1 w6 := hf15.trans2 hf6 (by simp; omega)
                have hbl6 := hbl5.fr hf6 (by simp; omega)
                have hbh6 := hbh5.fr hf6 (by simp; omega)
                by_cases hx1 : x = 1
                · have hb1 : (x == 1) = true := by simpa using hx1
                  have HX1 := Lib.hid hx1
                  clear hx1
                  have qc := hbl6.cell 0 rfl
                  have qd := hbl6.frozen 0
                  go_wp2
                  go_roundg (bs.count false)
                  case measure => omega
                  case rel => exact ibis_next hstep hkn2 hcnt hag2 (hs6.far hbl6 (by omega) _) (hv6.far hbl6 (by omega) _) (hbl6.set_ 0 _) (hbh6.far (p := ⟨bl, 0, none⟩) (by show bh ≠ bl; omega) _) (hf16.setCell (p := ⟨bl, 0, none⟩) (.inl (by simp)) _) hlo hhi hv1 hv2 hbs hu2.2 (by simp [HX1.out]) (by have := HX1.out; rw [if_neg (by omega)])
                · have hb1 : (x == 1) = false := by simpa using hx1
                  have HX1 := Lib.hid hx1
                  clear hx1
                  by_cases hx2 : x = 2
                  · have hb2 : (x == 2) = true := by simpa using hx2
                    have HX2 := Lib.hid hx2
                    clear hx2
                    have qc := hbh6.cell 0 rfl
                    have qd := hbh6.frozen 0
                    go_wp2
                    go_roundg (bs.count false)
                    case measure => omega
                    case rel => exact ibis_next hstep hkn2 hcnt hag2 (hs6.far hbh6 (by omega) _) (hv6.far hbh6 (by omega) _) (hbl6.far (p := ⟨bh, 0, none⟩) (by show bl ≠ bh; omega) _) (hbh6.set_ 0 _) (hf16.setCell (p := ⟨bh, 0, none⟩) (.inl (by simp)) _) hlo hhi hv1 hv2 hbs hu2.2 (by have := HX2.out; rw [if_neg (by omega)]) (by simp [HX2.out])
                  · have hb2 : (x == 2) = false := by simpa using hx2
                    have HX2 := Lib.hid hx2
                    clear hx2
                    go_wp2
                    go_roundg (bs.count false)
                    case measure => omega
                    case rel => exact ibis_next hstep hkn2 hcnt hag2 hs6 hv6 hbl6 hbh6 hf16 hlo hhi hv1 hv2 hbs hu2.2 (by simp [HX1.out]) (by simp [HX2.out])
        · have hyb : (y != 2) = true := by simpa using hy
          have HY := Lib.hid hy
          clear hy
          go_wp2_with fail
          refine (of_got v s kv km T _ ans u ((N : Int) - 1) _ hv3 hs3 hvs hks hvk (by omega) (by omega) (by omega) (lookup1 (by omega)) HV2.out).mono ?_
          rintro e w4 ⟨rfl, hf4, hs4, hv4⟩
          have hf14 : Fr [s] w1 w4 := hf13.trans2 hf4 (by simp; omega)
          go_wp2
          go_ret
          rw [show bisAll N T.toNat ans = some (.inr (7, 0, N - 1, u')) by
            have h5 := HV.out
            have h6 := HV2.out
            have h7 := HX.out
            have h8 := HY.out
            simp [bisAll, h5, h6, h7, h8]]
          exact ⟨rfl, hs4, hf14.mono (by simp), hbl.fr hf14 (by simpa using hsl), hbh.fr hf14 (by simpa using hsh)⟩
    · have hxb : (x != 1) = true := by simpa using hx
      have HX := Lib.hid hx
      clear hx
      go_wp2_with fail
      refine (of_got v s kv km T [] ans 0 0 _ hv2 hs2 hvs hks hvk (by omega) (by omega) (by omega) rfl HV.out).mono ?_
      rintro e w3 ⟨rfl, hf3, hs3, hv3⟩
      have hf13 : Fr [s] w1 w3 := (hf2.mono (by simp)).trans2 hf3 (by simp; omega)
      go_wp2
      go_ret
      rw [show bisAll N T.toNat ans = some (.inr (7, 0, N - 1, u)) by
        have h5 := HV.out
        have h7 := HX.out
        simp [bisAll, h5, h7]]
      exact ⟨rfl, hs3, hf13.mono (by simp), hbl.fr hf13 (by simpa using hsl), hbh.fr hf13 (by simpa using hsh)⟩
end Go.Proofs.YtjpbmbonccenfaaDoor

/- The program's Bisect. -/
namespace Go.Proofs.YtjpbmbonccenfaaDoor
open Go.RowKit
set_option linter.unusedVariables false

theorem enter_do (args : Array Value) (w : World) : (callFunc 108 args).run Tryd.prog w = .ok (.enter 108 args) w := by
  simp [go_sem]

theorem bisI_some (ans : List Int) (T : Nat) : ∀ (t : Nat) (bs : List Bool) (kn : Int → Bool) (lo hi : Int) (u : Nat), Known kn bs → t = bs.count false + 1 → 0 ≤ lo → hi ≤ bs.length → bisI ans T t kn lo hi u ≠ none
  | 0, bs, kn, lo, hi, u, _, h, _, _ => by omega
  | t + 1, bs, kn, lo, hi, u, hk, ht, hlo, hhi => by
    simp only [bisI]
    by_cases hv : betw kn lo hi < 0
    · rw [if_pos hv]; simp
    · rw [if_neg hv]
      rcases ver ans T u 3 with _ | ⟨x, u'⟩
      · simp
      · have hb := betw_range (kn := kn) (low := lo) (high := hi) (by omega)
        have hbv := hk (betw kn lo hi).toNat (by omega)
        rw [show (((betw kn lo hi).toNat : Nat) : Int) = betw kn lo hi by omega, hb.2.2] at hbv
        have hc := count_set hbv
        refine bisI_some ans T t (bs.set (betw kn lo hi).toNat true) _ _ _ _ (known_set hk (by omega)) (by omega) ?_ ?_
        · split <;> omega
        · simp only [List.length_set]; split <;> omega
theorem bisAll_some (N T : Nat) (ans : List Int) : bisAll N T ans ≠ none := by
  unfold bisAll
  rcases ver ans T 0 3 with _ | ⟨x, u⟩
  · simp
  · by_cases hx : x = 1
    · simp only [hx, ne_eq, not_true_eq_false, if_false]
      rcases ver ans T u 3 with _ | ⟨y, u'⟩
      · simp
      · by_cases hy : y = 2
        · simp only [hy, not_true_eq_false, if_false]
          exact bisI_some ans T _ (List.replicate N false) kn0 _ _ _ (fun i hi => by simp at hi; simp [kn0, hi]) (by simp) (by omega) (by simp; omega)
        · simp [hy]
    · simp [hx]

theorem quest_end (er : Int) (u l : Nat) (kept : List Int) : endOf false [] er (decide (u < l)) kept [] = questOf [] kept (decide (er = 0 ∧ l ≤ u)) (if er ≠ 0 then er else if u < l then 8 else 0) := by
  unfold endOf questOf
  by_cases he : er = 0
  · by_cases hu : u < l
    · have h1 : ¬ l ≤ u := by omega
      simp [he, hu]
    · have h1 : l ≤ u := by omega
      simp [he, hu, h1]
  · simp [he]

set_option maxHeartbeats 1600000 in
theorem bisect_main (n times : Int) (A : Option Addr) (c : Nat) (ans : List Int) (w : World) (ha : Rd w (.int .u8) A c ans) (h2 : 2 ≤ n) (h3 : n ≤ 256) (h4 : ans.length ≤ 4096) :
    Calls Tryd.prog 88 #[.int .i64 n, .int .i64 times, .slice A ans.length c] w (RetQstF w.heap.size w (bisect n times ans)) := by
  have hmf : ∀ (fn : Fn) (first cap : Array Value) (w : World), (Instr.makeFunc fn first cap).run Tryd.prog w = .ok (.func fn first cap) w := fun _ _ _ _ => rfl
  obtain ⟨N, rfl⟩ := Int.eq_ofNat_of_zero_le (show 0 ≤ n by omega)
  have hfin := Lib.hid (bisect_fin (n := N) (times := times) (ans := ans) rfl h2 h3 h4)
  go_enter Tryd.func88, Tryd.ntmps88
  go_wp2_with fail
  have hsz : ((((w.alloc (Obj.cells #[Value.int IntKind.i64 times] 3)).alloc (Obj.cells #[Value.bool false, Value.slice none 0 0, Value.slice none 0 0, Value.slice none 0 0] 34)).alloc (Obj.cells #[Value.int IntKind.i64 0] 3)).alloc (Obj.cells #[Value.int IntKind.i64 ((N : Int) - 1)] 3)).heap.size = w.heap.size + 4 := by simp
  have hfW : Fr [] w ((((w.alloc (Obj.cells #[Value.int IntKind.i64 times] 3)).alloc (Obj.cells #[Value.bool false, Value.slice none 0 0, Value.slice none 0 0, Value.slice none 0 0] 34)).alloc (Obj.cells #[Value.int IntKind.i64 0] 3)).alloc (Obj.cells #[Value.int IntKind.i64 ((N : Int) - 1)] 3)) := (by repeat (first | exact Fr.refl _ _ | assumption | apply Fr.drewN | apply Fr.drew | apply Fr.alloc | refine Fr.setCell ?_ (by simp) _))
  have hbt := ((((Blk.new w 3 #[Value.int IntKind.i64 times] _ rfl).alloc (Obj.cells #[Value.bool false, Value.slice none 0 0, Value.slice none 0 0, Value.slice none 0 0] 34)).alloc (Obj.cells #[Value.int IntKind.i64 0] 3)).alloc (Obj.cells #[Value.int IntKind.i64 ((N : Int) - 1)] 3))
  have hbg := (((Blk.new (w.alloc (Obj.cells #[Value.int IntKind.i64 times] 3)) 34 #[Value.bool false, Value.slice none 0 0, Value.slice none 0 0, Value.slice none 0 0] (w.heap.size + 1) (by simp)).alloc (Obj.cells #[Value.int IntKind.i64 0] 3)).alloc (Obj.cells #[Value.int IntKind.i64 ((N : Int) - 1)] 3))
  have hbl := ((Blk.new ((w.alloc (Obj.cells #[Value.int IntKind.i64 times] 3)).alloc (Obj.cells #[Value.bool false, Value.slice none 0 0, Value.slice none 0 0, Value.slice none 0 0] 34)) 3 #[Value.int IntKind.i64 0] (w.heap.size + 1 + 1) (by simp)).alloc (Obj.cells #[Value.int IntKind.i64 ((N : Int) - 1)] 3))
  have hbh := (Blk.new (((w.alloc (Obj.cells #[Value.int IntKind.i64 times] 3)).alloc (Obj.cells #[Value.bool false, Value.slice none 0 0, Value.slice none 0 0, Value.slice none 0 0] 34)).alloc (Obj.cells #[Value.int IntKind.i64 0] 3)) 3 #[Value.int IntKind.i64 ((N : Int) - 1)] (w.heap.size + 1 + 1 + 1) (by simp))
  have haW := ha.fr0 hfW
  generalize ((((w.alloc (Obj.cells #[Value.int IntKind.i64 times] 3)).alloc (Obj.cells #[Value.bool false, Value.slice none 0 0, Value.slice none 0 0, Value.slice none 0 0] 34)).alloc (Obj.cells #[Value.int IntKind.i64 0] 3)).alloc (Obj.cells #[Value.int IntKind.i64 ((N : Int) - 1)] 3)) = W at hsz hfW hbt hbg hbl hbh haW ⊢
  have HS := Lib.hid hsz
  have hsz1 : W.heap.size ≤ w.heap.size + 4 := by omega
  have hsz2 : w.heap.size + 4 ≤ W.heap.size := by omega
  clear hsz
  have hS : ∀ x ∈ [w.heap.size + 1 + 1, w.heap.size + 1 + 1 + 1], x < W.heap.size := by simp; omega
  have hdo : ∀ w1, AtDo W w1 ans → Calls Tryd.prog 108 (#[.pointer (some ⟨W.heap.size + 1 + 1, 0, none⟩)] ++ #[.pointer (some ⟨w.heap.size, 0, none⟩), .pointer (some ⟨w.heap.size + 1 + 1, 0, none⟩), .pointer (some ⟨w.heap.size + 1 + 1 + 1, 0, none⟩)]) w1
      (BisDo w1 (W.heap.size + 1 + 1) (W.heap.size + 1) (w.heap.size + 1 + 1) (w.heap.size + 1 + 1 + 1) ans (bisAll N (timesOf times).toNat ans)) := fun w1 hat =>
    bisdo_any _ _ _ _ _ N times ans w1 hat.srch (hbt.fr hat.fr (by simp)) (hbl.fr hat.fr (by simp)) (hbh.fr hat.fr (by simp)) (by omega) (by omega) (by omega)
  rcases ho : bisAll N (timesOf times).toNat ans with _ | (v | ⟨er, lo, hi, u⟩)
  · exact absurd ho (bisAll_some _ _ _)
  · have HO := Lib.hid ho
    rw [ho] at hdo
    clear ho
    refine (run_ask W A c ans 108 _ _ hS _ [v] haW h4 enter_do hdo).mono ?_
    rintro e w2 ⟨A2, c2, rfl, hr2, hf2, hnw, wd, ⟨lo, hi, hdl, hdh⟩, hfd⟩
    clear hdo
    have hl2 := hdl.fr hfd (by simp; omega)
    have hh2 := hdh.fr hfd (by simp; omega)
    have ql := hl2.cell 0 rfl
    have qh := hh2.cell 0 rfl
    have hg2 := hbg.fr hf2 (by simp)
    go_wp2_with fail
    refine (quest_any A2 _ c2 2 [v] [lo, hi] false 0 _ (hr2.alloc _) (Rd.two _ _ _ _ _) (by simp) w.heap.size (Nat.le_trans (Nat.le_trans hfW.size hf2.size) (by simp)) (hnw.mono hfW.size)).mono ?_
    rintro e w3 ⟨vq, rfl, hf3, A1, a1, B1, b1, C1, c1, rfl, hq1, hq2, hq3⟩
    have hB3 := (hg2.alloc (Obj.cells #[Value.int IntKind.i64 lo, Value.int IntKind.i64 hi] 3)).fr hf3 (by simp)
    have hf03 : Fr [] w w3 := ((hfW.trans2 hf2 (by simp; omega)).alloc _).trans hf3
    have qc0 := hB3.cell 0 rfl
    have qc1 := hB3.cell 1 rfl
    have qc2 := hB3.cell 2 rfl
    have qc3 := hB3.cell 3 rfl
    have qd0 := hB3.frozen 0
    have qd1 := hB3.frozen 1
    have qd2 := hB3.frozen 2
    have qd3 := hB3.frozen 3
    go_wp2
    refine bodyPost_ret (results_qst rfl _ _ (w.heap.size + 1) rfl (hB3.four _ _ _ _)) rfl ?_
    rw [hfin.out, HO.out, show finB ans (some (.inl v)) = questOf [v] [lo, hi] false 0 by simp [finB, questOf]]
    exact qstF_ret (by omega) hf03 hB3 hq1 hq2 hq3
  · have HO := Lib.hid ho
    rw [ho] at hdo
    clear ho
    refine (run_end W A c ans 108 _ _ hS _ er u haW h4 enter_do hdo).mono ?_
    rintro e w2 ⟨rfl, hf2, wd, ⟨hdl, hdh⟩, hfd⟩
    clear hdo
    have hl2 := hdl.fr hfd (by simp; omega)
    have hh2 := hdh.fr hfd (by simp; omega)
    have ql := hl2.cell 0 rfl
    have qh := hh2.cell 0 rfl
    have hg2 := hbg.fr hf2 (by simp)
    generalize hdn : decide (er = 0 ∧ ans.length ≤ u) = dn
    generalize her : (if er ≠ 0 then er else if u < ans.length then 8 else 0) = er2
    have HD := Lib.hid hdn
    have HE := Lib.hid her
    clear hdn her
    go_wp2_with fail
    refine (quest_any none _ 0 2 [] [lo, hi] dn er2 _ (Rd.nil_ _ _) (Rd.two _ _ _ _ _) (by simp) w.heap.size (Nat.le_trans (Nat.le_trans hfW.size hf2.size) (by simp)) (Nw.none_ _)).mono ?_
    rintro e w3 ⟨vq, rfl, hf3, A1, a1, B1, b1, C1, c1, rfl, hq1, hq2, hq3⟩
    have hB3 := (hg2.alloc (Obj.cells #[Value.int IntKind.i64 lo, Value.int IntKind.i64 hi] 3)).fr hf3 (by simp)
    have hf03 : Fr [] w w3 := ((hfW.trans2 hf2 (by simp; omega)).alloc _).trans hf3
    have qc0 := hB3.cell 0 rfl
    have qc1 := hB3.cell 1 rfl
    have qc2 := hB3.cell 2 rfl
    have qc3 := hB3.cell 3 rfl
    have qd0 := hB3.frozen 0
    have qd1 := hB3.frozen 1
    have qd2 := hB3.frozen 2
    have qd3 := hB3.frozen 3
    go_wp2
    refine bodyPost_ret (results_qst rfl _ _ (w.heap.size + 1) rfl (hB3.four _ _ _ _)) rfl ?_
    rw [hfin.out, HO.out, show finB ans (some (.inr (er, lo, hi, u))) = questOf [] [lo, hi] dn er2 by
      rw [← HD.out, ← HE.out]
      simp only [finB]
      exact quest_end er u ans.length [lo, hi]]
    exact qstF_ret (by omega) hf03 hB3 hq1 hq2 hq3

set_option maxHeartbeats 1600000 in
theorem bisect_any (n times : Int) (A : Option Addr) (c : Nat) (ans : List Int) (w : World) (ha : Rd w (.int .u8) A c ans) :
    Calls Tryd.prog 88 #[.int .i64 n, .int .i64 times, .slice A ans.length c] w (RetQstF w.heap.size w (bisect n times ans)) := by
  have hn : ∀ W : World, Rd W (.int .i64) none 0 ([] : List Int) ∧ Nw w.heap.size none := fun W => ⟨Rd.nil_ W _, Nw.none_ _⟩
  have hmf : ∀ (fn : Fn) (first cap : Array Value) (w : World), (Instr.makeFunc fn first cap).run Tryd.prog w = .ok (.func fn first cap) w := fun _ _ _ _ => rfl
  by_cases h : n < 2
  · go_enter Tryd.func88, Tryd.ntmps88
    go_wp2
    refine bodyPost_ret (v := .tuple #[.agg #[.bool false, .slice none 0 0, .slice none 0 0, .slice none 0 0], .int .i64 1]) (by simp [results, Tryd.results88, go_sem]) rfl ?_
    rw [show bisect n times ans = (qNone, 1) by simp [bisect, h]]
    exact ⟨_, rfl, (by repeat (first | exact Fr.refl _ _ | assumption | apply Fr.drewN | apply Fr.drew | apply Fr.alloc | refine Fr.setCell ?_ (by simp) _)), none, 0, none, 0, none, 0, rfl, hn _, hn _, hn _⟩
  · by_cases h3 : 256 < n
    · go_enter Tryd.func88, Tryd.ntmps88
      go_wp2
      refine bodyPost_ret (v := .tuple #[.agg #[.bool false, .slice none 0 0, .slice none 0 0, .slice none 0 0], .int .i64 3]) (by simp [results, Tryd.results88, go_sem]) rfl ?_
      rw [show bisect n times ans = (qNone, 3) by simp [bisect, h, h3]]
      exact ⟨_, rfl, (by repeat (first | exact Fr.refl _ _ | assumption | apply Fr.drewN | apply Fr.drew | apply Fr.alloc | refine Fr.setCell ?_ (by simp) _)), none, 0, none, 0, none, 0, rfl, hn _, hn _, hn _⟩
    · by_cases h4 : 4096 < ans.length
      · have h3' : n ≤ 256 := by omega
        have h2' : 2 ≤ n := by omega
        have hbi := Lib.hid (show bisect n times ans = (qNone, 3) by simp [bisect, h, h4])
        clear h h3
        go_enter Tryd.func88, Tryd.ntmps88
        go_wp2_with fail
        refine (run_limit _ A c ans _ (ha.fr0 (by repeat (first | exact Fr.refl _ _ | assumption | apply Fr.drewN | apply Fr.drew | apply Fr.alloc | refine Fr.setCell ?_ (by simp) _))) h4).mono ?_
        rintro e w2 ⟨rfl, hf2⟩
        have hg2 := (((Blk.new (w.alloc (Obj.cells #[Value.int IntKind.i64 times] 3)) 34 #[Value.bool false, Value.slice none 0 0, Value.slice none 0 0, Value.slice none 0 0] (w.heap.size + 1) (by simp)).alloc (Obj.cells #[Value.int IntKind.i64 0] 3)).alloc (Obj.cells #[Value.int IntKind.i64 (n - 1)] 3)).fr hf2 (by simp)
        have hl2 := ((Blk.new ((w.alloc (Obj.cells #[Value.int IntKind.i64 times] 3)).alloc (Obj.cells #[Value.bool false, Value.slice none 0 0, Value.slice none 0 0, Value.slice none 0 0] 34)) 3 #[Value.int IntKind.i64 0] (w.heap.size + 1 + 1) (by simp)).alloc (Obj.cells #[Value.int IntKind.i64 (n - 1)] 3)).fr hf2 (by simp)
        have hh2 := (Blk.new (((w.alloc (Obj.cells #[Value.int IntKind.i64 times] 3)).alloc (Obj.cells #[Value.bool false, Value.slice none 0 0, Value.slice none 0 0, Value.slice none 0 0] 34)).alloc (Obj.cells #[Value.int IntKind.i64 0] 3)) 3 #[Value.int IntKind.i64 (n - 1)] (w.heap.size + 1 + 1 + 1) (by simp)).fr hf2 (by simp)
        have hf02 : Fr [] w w2 := Fr.trans (b := (((w.alloc (Obj.cells #[Value.int IntKind.i64 times] 3)).alloc (Obj.cells #[Value.bool false, Value.slice none 0 0, Value.slice none 0 0, Value.slice none 0 0] 34)).alloc (Obj.cells #[Value.int IntKind.i64 0] 3)).alloc (Obj.cells #[Value.int IntKind.i64 (n - 1)] 3)) (by repeat (first | exact Fr.refl _ _ | assumption | apply Fr.drewN | apply Fr.drew | apply Fr.alloc | refine Fr.setCell ?_ (by simp) _)) hf2
        have ql := hl2.cell 0 rfl
        have qh := hh2.cell 0 rfl
        go_wp2_with fail
        refine (quest_any none _ 0 2 [] [0, n - 1] false 3 _ (Rd.nil_ _ _) (Rd.two _ _ _ _ _) (by simp) w.heap.size (Nat.le_trans hf02.size (by simp)) (Nw.none_ _)).mono ?_
        rintro e w3 ⟨vq, rfl, hf3, A1, a1, B1, b1, C1, c1, rfl, hq1, hq2, hq3⟩
        have hB3 := (hg2.alloc (Obj.cells #[Value.int IntKind.i64 0, Value.int IntKind.i64 (n - 1)] 3)).fr hf3 (by simp)
        have hf03 : Fr [] w w3 := (hf02.alloc _).trans hf3
        have qc0 := hB3.cell 0 rfl
        have qc1 := hB3.cell 1 rfl
        have qc2 := hB3.cell 2 rfl
        have qc3 := hB3.cell 3 rfl
        have qd0 := hB3.frozen 0
        have qd1 := hB3.frozen 1
        have qd2 := hB3.frozen 2
        have qd3 := hB3.frozen 3
        go_wp2
        refine bodyPost_ret (results_qst rfl _ _ (w.heap.size + 1) rfl (hB3.four _ _ _ _)) rfl ?_
        rw [hbi.out, show (qNone, (3 : Int)) = questOf [] [0, n - 1] false 3 by simp [questOf]]
        exact qstF_ret (by omega) hf03 hB3 hq1 hq2 hq3
      · exact bisect_main n times A c ans w ha (by omega) (by omega) (by omega)
end Go.Proofs.YtjpbmbonccenfaaDoor
