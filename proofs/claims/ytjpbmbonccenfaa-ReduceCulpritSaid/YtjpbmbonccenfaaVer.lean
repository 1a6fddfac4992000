/- The reference's verdict on a version. -/
import Derived.Test.YtjpbmbonccenfaaPlay
namespace Go.Proofs.Ytjpbmbonccenfaa
open Go.RowKit
set_option linter.unusedVariables false

/-- The verdict on a version that is asked up to so many times, and how many answers are then used; none: an answer lacks. -/
def ver (ans : List Int) : Nat → Nat → Int → Option (Int × Nat)
  | 0, used, out => some (out, used)
  | t + 1, used, out => match ans[used]? with
    | none => none
    | some a => if told a = 2 then some (2, used + 1) else ver ans t (used + 1) (if told a = 1 then 1 else out)

/-- How often a version is asked. -/
def timesOf (times : Int) : Int := min (max times 1) 9

def VerPost (w : World) (bp : Nat) (ans : List Int) (S T : Value) (v : Int) (r : Option (Int × Nat)) (e : Ending) (w' : World) : Prop :=
  match r with
  | some (x, u) => e = .returned (.int .u8 x) ∧ Fr [bp] w w' ∧ Play w' bp ans u S T false []
  | none => ∃ u, e = .returned (.int .u8 0) ∧ Fr [bp] w w' ∧ Play w' bp ans u S T true [v]

theorem ver_stop {ans : List Int} {t u : Nat} {o : Int} (ht : 0 < t) (h : ans[u]? = none) : ver ans t u o = none := by
  obtain ⟨t, rfl⟩ : ∃ n, t = n + 1 := ⟨t - 1, by omega⟩
  simp [ver, h]
theorem ver_fail {ans : List Int} {t u : Nat} {o a : Int} (ht : 0 < t) (h : ans[u]? = some a) (h2 : told a = 2) : ver ans t u o = some (2, u + 1) := by
  obtain ⟨t, rfl⟩ : ∃ n, t = n + 1 := ⟨t - 1, by omega⟩
  simp [ver, h, h2]
theorem ver_on {ans : List Int} {t u : Nat} {o a : Int} (ht : 0 < t) (h : ans[u]? = some a) (h2 : ¬ told a = 2) : ver ans t u o = ver ans (t - 1) (u + 1) (if told a = 1 then 1 else o) := by
  obtain ⟨t, rfl⟩ : ∃ n, t = n + 1 := ⟨t - 1, by omega⟩
  simp [ver, h, h2]
theorem timesOf_le (t : Int) : 1 ≤ timesOf t ∧ timesOf t ≤ 9 := by unfold timesOf; omega

set_option maxHeartbeats 1600000 in
theorem version_any (bp : Nat) (ans : List Int) (used : Nat) (S T : Value) (v times : Int) (w : World) (h : Play w bp ans used S T false []) (hbig : ans.length ≤ 1000000) (hu : used ≤ ans.length) :
    Calls Try.prog 45 #[.pointer (some ⟨bp, 0, none⟩), .int .i64 v, .int .i64 times] w (VerPost w bp ans S T v (ver ans (timesOf times).toNat used 3)) := by
  have hT : (times < 1 ∧ timesOf times ≤ 1) ∨ (¬ times < 1 ∧ 9 < times ∧ timesOf times ≤ 9 ∧ 9 ≤ timesOf times) ∨ (¬ times < 1 ∧ ¬ 9 < times ∧ timesOf times ≤ times ∧ times ≤ timesOf times) := by
    unfold timesOf; omega
  have hT2 := timesOf_le times
  obtain ⟨hT3, hT4⟩ := hT2
  rcases hT with ⟨ht1, ht2⟩ | ⟨ht1, ht2, ht3, ht4⟩ | ⟨ht1, ht2, ht3, ht4⟩
  all_goals
    go_enter Try.func45, Try.ntmps45
    go_wp2
    go_loopw [7, 8] (fun out i wr => ∃ (k : Nat) (o : Int), (k : Int) ≤ timesOf times ∧ i = .int .i64 k ∧ out = .int .u8 o ∧ ver ans (timesOf times).toNat used 3 = ver ans ((timesOf times).toNat - k) (used + k) o ∧ Play wr bp ans (used + k) S T false [] ∧ Fr [bp] w wr) (fun _ i _ => 9 - (intOf i).toNat)
    case atStart => exact ⟨0, 3, by omega, rfl, rfl, rfl, h, Fr.refl _ _⟩
    case round =>
      obtain ⟨k, o, hk, rfl, rfl, hv, hp, hf⟩ := hrel
      have HV := Lib.hid hv
      clear hv
      by_cases hlt : (k : Int) < timesOf times
      · rcases hans : ans[used + k]? with _ | a
        · have hle : ans.length ≤ used + k := by simpa using hans
          have hst := Lib.hid (ver_stop (t := (timesOf times).toNat - k) (o := o) (by omega) hans)
          clear hans
          go_wp2_with fail
          refine (next_none bp ans (used + k) S T _ 1 [v] _ (hp.fr ((Fr.refl _ _).alloc _)) hle (Rd.one _ _ _ _) (by simp) (fun _ => apart_new hp.lt)).mono ?_
          rintro e w2 ⟨rfl, hf2, hp2⟩
          obtain ⟨A, c, B, d, hh, _⟩ := hp2.ex
          have c4 := hh.cell 4 rfl
          clear hh
          go_wp2
          go_ret
          rw [HV.out, hst.out]
          exact ⟨_, rfl, (hf.alloc _).trans hf2, hp2⟩
        · have hlu : used + k < ans.length := (List.getElem?_eq_some_iff.1 hans).1
          by_cases h2 : told a = 2
          · have hst := Lib.hid (ver_fail (t := (timesOf times).toNat - k) (o := o) (by omega) hans h2)
            have HA := Lib.hid hans
            have hb2 : (told a == 2) = true := by simpa using h2
            have H2 := Lib.hid h2
            clear hans h2
            go_wp2_with fail
            refine (next_some bp ans (used + k) S T _ a _ (hp.fr ((Fr.refl _ _).alloc _)) HA.out).mono ?_
            rintro e w2 ⟨rfl, hf2, hp2⟩
            obtain ⟨A, c, B, d, hh, _⟩ := hp2.ex
            have c4 := hh.cell 4 rfl
            clear hh
            go_wp2
            go_ret
            rw [HV.out, hst.out]
            exact ⟨ret_int H2.out, (hf.alloc _).trans hf2, hp2⟩
          · have hst := Lib.hid (ver_on (t := (timesOf times).toNat - k) (o := o) (by omega) hans h2)
            have HA := Lib.hid hans
            have hb2 : (told a == 2) = false := by simpa using h2
            clear hans h2
            by_cases h1 : told a = 1
            · have hb1 : (told a == 1) = true := by simpa using h1
              have H1 := Lib.hid h1
              clear h1
              go_wp2_with fail
              refine (next_some bp ans (used + k) S T _ a _ (hp.fr ((Fr.refl _ _).alloc _)) HA.out).mono ?_
              rintro e w2 ⟨rfl, hf2, hp2⟩
              obtain ⟨A, c, B, d, hh, _⟩ := hp2.ex
              have c4 := hh.cell 4 rfl
              clear hh
              go_wp2
              go_roundw
              case rel => exact ⟨k + 1, 1, by omega, by go_num, rfl, by rw [HV.out, hst.out, if_pos H1.out]; rfl, hp2, (hf.alloc _).trans hf2⟩
              case measure => simp [intOf]; omega
            · have hb1 : (told a == 1) = false := by simpa using h1
              have H1 := Lib.hid h1
              clear h1
              go_wp2_with fail
              refine (next_some bp ans (used + k) S T _ a _ (hp.fr ((Fr.refl _ _).alloc _)) HA.out).mono ?_
              rintro e w2 ⟨rfl, hf2, hp2⟩
              obtain ⟨A, c, B, d, hh, _⟩ := hp2.ex
              have c4 := hh.cell 4 rfl
              clear hh
              go_wp2
              go_roundw
              case rel => exact ⟨k + 1, o, by omega, by go_num, rfl, by rw [HV.out, hst.out, if_neg H1.out]; rfl, hp2, (hf.alloc _).trans hf2⟩
              case measure => simp [intOf]; omega
      · have hz := Lib.hid (show (timesOf times).toNat - k = 0 by omega)
        go_wp2
        go_ret
        rw [HV.out, hz.out]
        exact ⟨rfl, hf, hp⟩
def VerStop (w : World) (bp : Nat) (ans : List Int) (S T : Value) (v : Int) (e : Ending) (w' : World) : Prop := ∃ u, e = .returned (.int .u8 0) ∧ Fr [bp] w w' ∧ Play w' bp ans u S T true [v]
def VerGot (w : World) (bp : Nat) (ans : List Int) (S T : Value) (x : Int) (u : Nat) (e : Ending) (w' : World) : Prop := e = .returned (.int .u8 x) ∧ Fr [bp] w w' ∧ Play w' bp ans u S T false []
theorem version_none (bp : Nat) (ans : List Int) (used : Nat) (S T : Value) (v times : Int) (w : World) (h : Play w bp ans used S T false []) (hbig : ans.length ≤ 1000000) (hu : used ≤ ans.length) (hv : ver ans (timesOf times).toNat used 3 = none) :
    Calls Try.prog 45 #[.pointer (some ⟨bp, 0, none⟩), .int .i64 v, .int .i64 times] w (VerStop w bp ans S T v) :=
  (version_any bp ans used S T v times w h hbig hu).mono fun _ _ hp => by rw [hv] at hp; exact hp
theorem version_got (bp : Nat) (ans : List Int) (used : Nat) (S T : Value) (v times : Int) (w : World) (h : Play w bp ans used S T false []) (hbig : ans.length ≤ 1000000) (hu : used ≤ ans.length) {x : Int} {u : Nat} (hv : ver ans (timesOf times).toNat used 3 = some (x, u)) :
    Calls Try.prog 45 #[.pointer (some ⟨bp, 0, none⟩), .int .i64 v, .int .i64 times] w (VerGot w bp ans S T x u) :=
  (version_any bp ans used S T v times w h hbig hu).mono fun _ _ hp => by rw [hv] at hp; exact hp

end Go.Proofs.Ytjpbmbonccenfaa
