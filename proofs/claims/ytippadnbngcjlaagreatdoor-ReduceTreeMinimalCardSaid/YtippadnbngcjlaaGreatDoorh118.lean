/- Texts of this seat, one behind the other: Once, Fails. -/
import Derived.Test.YtippadnbngcjlaaGreatDoorh19
import Derived.Test.YtippadnbngcjlaaGreatDoorh117
namespace Go.Proofs.YtippadnbngcjlaaGreatDoor
set_option linter.unusedVariables false

/- once and fails: a candidate is asked once; its answer is known from then on. -/
section
open Go.RowKit
abbrev Kn := List (List Int × Int)
def askV (ans : List Int) (used : Nat) (kn : Kn) (q : List Int) : Option (Int × Nat × Kn) :=
  match @List.lookup (List Int) Int instBEqOfDecidableEq q kn with
  | some v => some (v, used, kn)
  | none => match ans[used]? with
    | some a => some (told a, used + 1, kn ++ [(q, told a)])
    | none => none
theorem askV_known {ans : List Int} {used : Nat} {kn : Kn} {q : List Int} {v : Int} (h : @List.lookup (List Int) Int instBEqOfDecidableEq q kn = some v) : askV ans used kn q = some (v, used, kn) := by simp [askV, h]
theorem askV_got {ans : List Int} {used : Nat} {kn : Kn} {q : List Int} {a : Int} (h : @List.lookup (List Int) Int instBEqOfDecidableEq q kn = none) (ha : ans[used]? = some a) : askV ans used kn q = some (told a, used + 1, kn ++ [(q, told a)]) := by simp [askV, h, ha]
theorem askV_ask {ans : List Int} {used : Nat} {kn : Kn} {q : List Int} (h : @List.lookup (List Int) Int instBEqOfDecidableEq q kn = none) (ha : ans[used]? = none) : askV ans used kn q = none := by simp [askV, h, ha]
structure SK (w : World) (s km : Nat) (ans : List Int) (used : Nat) (kn : Kn) : Prop where
 srch : Srch w s ans used km
 map : MapAt w km keyVal (Value.int .u8) kn
 ne : s ≠ km
 le : used ≤ ans.length
theorem SK.fr {S : List Nat} {w w' : World} {s km used : Nat} {ans : List Int} {kn : Kn} (h : SK w s km ans used kn) (hf : Fr S w w') (h1 : s ∉ S) (h2 : km ∉ S) (h3 : ∀ x ∈ S, s < x) : SK w' s km ans used kn := by
 refine ⟨?_, h.map.fr hf h2, h.ne, h.le⟩
 obtain ⟨A, c, hb, hr, hn⟩ := h.srch.ex
 refine ⟨A, c, hb.fr hf h1, hr.fr hf fun h0 a ha hm => ?_, hn⟩
 have := hn h0 a ha
 have := h3 _ hm
 omega
theorem SK.fr0 {w w' : World} {s km used : Nat} {ans : List Int} {kn : Kn} (h : SK w s km ans used kn) (hf : Fr [] w w') : SK w' s km ans used kn := h.fr hf (by simp) (by simp) (by simp)
theorem keyK : KeyT Tryz.prog 9 .string keyVal := keyStr Tryz.underlying9 keyBytes fun _ _ => keyBytes_inj
def OnceGot (w : World) (s km : Nat) (ans : List Int) (v : Int) (used : Nat) (kn : Kn) (e : Ending) (w' : World) : Prop :=
 e = .returned (.int .u8 v) ∧ Fr [s, km] w w' ∧ SK w' s km ans used kn
set_option maxHeartbeats 800000 in
theorem once_got (s km : Nat) (ans : List Int) (used : Nat) (kn : Kn) (q : List Int) (C : Value) (w : World) (h : SK w s km ans used kn) {v : Int} {u : Nat} {kn' : Kn} (ha : askV ans used kn q = some (v, u, kn')) :
  Calls Tryz.prog 90 #[.pointer (some ⟨s, 0, none⟩), keyVal q, C] w (OnceGot w s km ans v u kn') := by
 obtain ⟨A, c, hb, hr, hna⟩ := h.srch.ex
 have c2 := hb.cell 2 rfl
 have hlk := run_lookup_at keyK Tryz.underlying98 0 (zeroV _) h.map q
 rcases hl : @List.lookup (List Int) Int instBEqOfDecidableEq q kn with _ | v'
 ·rcases hans : ans[used]? with _ | a
  ·rw [askV_ask hl hans] at ha
   cases ha
  ·rw [askV_got hl hans] at ha
   simp only [Option.some.injEq, Prod.mk.injEq] at ha
   obtain ⟨rfl, rfl, rfl⟩ := ha
   have hlt : used < ans.length := (List.getElem?_eq_some_iff.1 hans).1
   rw [hl] at hlk
   simp only [Option.getD_none, Option.isSome_none] at hlk
   have HL := Lib.hid hl
   have HA := Lib.hid hans
   clear hl hans
   go_enter Tryz.func90, Tryz.ntmps90
   go_wp2_with fail
   refine (inext_got s ans used km _ a _ h.srch HA.out).mono ?_
   rintro e w2 ⟨rfl, hf2, hs2⟩
   have hm2 := h.map.fr hf2 (by simpa using h.ne.symm)
   obtain ⟨A2, d2, hb2, hr2, hna2⟩ := hs2.ex
   have e2 := hb2.cell 2 rfl
   go_wp2_with (refine wpList_store_new rfl (.tmp 26) (.tmp 27) (.tmp 28) _ rfl keyK Tryz.underlying98 hm2 q (told a) rfl rfl rfl HL.out ?_; intro w3 hm3 hf3)
   go_ret
   refine ⟨rfl, (hf2.mono (by simp)).trans (hf3.mono (by simp)), ?_, hm3, h.ne, by omega⟩
   refine ⟨A2, d2, hb2.fr hf3 (by simpa using h.ne), hr2.fr hf3 fun h0 x hx => ?_, hna2⟩
   simpa using hr2.apartM hm2 h0 x hx
 ·rw [askV_known hl] at ha
  simp only [Option.some.injEq, Prod.mk.injEq] at ha
  obtain ⟨rfl, rfl, rfl⟩ := ha
  rw [hl] at hlk
  simp only [Option.getD_some, Option.isSome_some] at hlk
  clear hl
  go_enter Tryz.func90, Tryz.ntmps90
  go_wp2
  go_ret
  exact ⟨rfl, Fr.refl _ _, h⟩
def OnceAsk (w : World) (ask : Value) (e : Ending) (w' : World) : Prop := e = .panicked [question ask] ∧ ∃ n, w' = w.drewN n
set_option maxHeartbeats 800000 in
theorem once_ask (s km : Nat) (ans : List Int) (used : Nat) (kn : Kn) (q : List Int) (D : Option Addr) (n d : Nat) (w : World) (h : SK w s km ans used kn) (ha : askV ans used kn q = none) :
  Calls Tryz.prog 90 #[.pointer (some ⟨s, 0, none⟩), keyVal q, .slice D n d] w (OnceAsk w (.slice D n d)) := by
 obtain ⟨A, c, hb, hr, hna⟩ := h.srch.ex
 have c2 := hb.cell 2 rfl
 have hlk := run_lookup_at keyK Tryz.underlying98 0 (zeroV _) h.map q
 rcases hl : @List.lookup (List Int) Int instBEqOfDecidableEq q kn with _ | v'
 ·rcases hans : ans[used]? with _ | a
  ·have hlen : used = ans.length := by
    have := List.getElem?_eq_none_iff.1 hans
    have := h.le
    omega
   rw [hl] at hlk
   simp only [Option.getD_none, Option.isSome_none] at hlk
   clear hl hans ha
   go_enter Tryz.func90, Tryz.ntmps90
   go_wp2_with fail
   refine (inext_ask s ans used km D n d _ h.srch hlen).mono ?_
   rintro e w2 ⟨rfl, m, rfl⟩
   go_wp2
   exact ⟨rfl, rfl, m, rfl⟩
  ·rw [askV_got hl hans] at ha
   cases ha
 ·rw [askV_known hl] at ha
  cases ha
end

/- fails, passes: a set is asked. -/
section
open Go.RowKit
def I64 (xs : List Int) : Prop := ∀ n ∈ xs, -9223372036854775808 ≤ n ∧ n ≤ 9223372036854775807
def FailsGot (w : World) (s km : Nat) (ans : List Int) (b : Bool) (used : Nat) (kn : Kn) (e : Ending) (w' : World) : Prop :=
 e = .returned (.bool b) ∧ Fr [s, km] w w' ∧ SK w' s km ans used kn
def Asks (w : World) (q : List Int) (e : Ending) (w' : World) : Prop :=
 ∃ A c, e = .panicked [question (.slice A q.length c)] ∧ Rd w' (.int .i64) A c q ∧ Fr [] w w' ∧ Nw w.heap.size A
set_option maxHeartbeats 400000 in
theorem fails_got (s km : Nat) (ans : List Int) (used : Nat) (kn : Kn) (A : Option Addr) (ca : Nat) (q : List Int) (w : World) (h : SK w s km ans used kn) (ha : Rd w (.int .i64) A ca q) (hlen : q.length ≤ 1000000) (hin : I64 q) (htab : Tab w)
  {v : Int} {u : Nat} {kn' : Kn} (hv : askV ans used kn q = some (v, u, kn')) :
  Calls Tryz.prog 80 #[.pointer (some ⟨s, 0, none⟩), .slice A q.length ca] w (FailsGot w s km ans (v == 2) u kn') := by
 have HV := Lib.hid hv
 clear hv
 go_enter Tryz.func80, Tryz.ntmps80
 go_wp2_with fail
 refine (key_any _ _ _ _ ha hlen hin htab).mono ?_
 rintro e w1 ⟨rfl, hf1⟩
 go_wp2_with fail
 refine (fresh_any _ _ _ _ (ha.fr0 hf1) hlen).mono ?_
 rintro e w2 hn
 obtain ⟨A2, c2, rfl, hf2, ho2⟩ := hn.n
 go_wp2_with fail
 refine (once_got s km ans used kn q _ _ ((h.fr0 hf1).fr0 hf2) HV.out).mono ?_
 rintro e w3 ⟨rfl, hf3, hs3⟩
 go_wp2
 go_ret
 exact ⟨rfl, ((hf1.trans hf2).mono (by simp)).trans hf3, hs3⟩
set_option maxHeartbeats 400000 in
theorem fails_ask (s km : Nat) (ans : List Int) (used : Nat) (kn : Kn) (A : Option Addr) (ca : Nat) (q : List Int) (w : World) (h : SK w s km ans used kn) (ha : Rd w (.int .i64) A ca q) (hlen : q.length ≤ 1000000) (hin : I64 q) (htab : Tab w)
  (hv : askV ans used kn q = none) :
  Calls Tryz.prog 80 #[.pointer (some ⟨s, 0, none⟩), .slice A q.length ca] w (Asks w q) := by
 have HV := Lib.hid hv
 clear hv
 go_enter Tryz.func80, Tryz.ntmps80
 go_wp2_with fail
 refine (key_any _ _ _ _ ha hlen hin htab).mono ?_
 rintro e w1 ⟨rfl, hf1⟩
 go_wp2_with fail
 refine (fresh_any _ _ _ _ (ha.fr0 hf1) hlen).mono ?_
 rintro e w2 hn
 obtain ⟨A2, c2, rfl, hf2, ho2⟩ := hn.n
 go_wp2_with fail
 refine (once_ask s km ans used kn q A2 q.length c2 _ ((h.fr0 hf1).fr0 hf2) HV.out).mono ?_
 rintro e w3 ⟨rfl, m, rfl⟩
 go_wp2
 exact ⟨rfl, A2, c2, rfl, (own_rd ho2 rfl rfl).drewN m, (hf1.trans hf2).drewN m, (Nw.own ho2).mono hf1.size⟩
end

end Go.Proofs.YtippadnbngcjlaaGreatDoor
