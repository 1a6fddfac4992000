/- Texts of this seat, one behind the other: RClo, NextT. -/
import Derived.Test.YtippadnbngcjlaaGreatDoorh123
import Derived.Test.YtippadnbngcjlaaGreatDoorh126
import Derived.Test.YtippadnbngcjlaaGreatDoorh127
import Derived.Test.YtippadnbngcjlaaGreatDoorh117
import Derived.Test.YtippadnbngcjlaaGreatDoorh118
import Derived.Test.YtippadnbngcjlaaGreatDoorh17
import Derived.Test.YtippadnbngcjlaaGreatDoorh121
namespace Go.Proofs.YtippadnbngcjlaaGreatDoor
set_option linter.unusedVariables false

/- Without and Close: of the program and of the reference, as plain functions. -/
section
open Go.RowKit
theorem mem_clo {L : List (List Int)} {set : List Int} {x : Int} : x ∈ clo L set ↔ (0 ≤ x ∧ x < L.length) ∧ CloP L set x := by
 unfold clo
 rw [mem_picked]
 constructor
 ·intro h
  have h1 := inB_lt h
  simp at h1
  obtain ⟨k, rfl⟩ : ∃ k : Nat, x = k := ⟨x.toNat, by omega⟩
  have hk : k < L.length := by omega
  refine ⟨h1, ?_⟩
  rw [inB_at (b := _) (List.getElem?_eq_getElem (by simpa using hk))] at h
  simpa using h
 ·rintro ⟨h1, h⟩
  obtain ⟨k, rfl⟩ : ∃ k : Nat, x = k := ⟨x.toNat, by omega⟩
  have hk : k < L.length := by omega
  rw [inB_at (b := _) (List.getElem?_eq_getElem (by simpa using hk))]
  simpa using h
theorem clo_sorted (L : List (List Int)) (set : List Int) : (clo L set).Pairwise (· < ·) := picked_sorted _
structure COk (L : List (List Int)) (set out : List Int) : Prop where
 ok : isSet L.length out = true
 base : ∀ x ∈ set, x ∈ out
 sub : ∀ x ∈ out, x ∈ clo L set
theorem COk.start {L : List (List Int)} {set : List Int} (h : isSet L.length set = true) : COk L set set :=
 ⟨h, fun _ hx => hx, fun x hx => mem_clo.2 ⟨(isSet_iff.1 h).1 x hx, fun D h1 _ => h1 x hx⟩⟩
theorem COk.add {L : List (List Int)} {set out : List Int} {x : Int} (h : COk L set out) (hk : checkNeeds L = 0) (hx : x ∈ out) : COk L set (plus out (needsOf L x)) := by
 have hr := (isSet_iff.1 h.ok).1 x hx
 have hn := needsOf_in hk hr
 refine ⟨plus_set h.ok hn, fun y hy => mem_plus.2 (.inl (h.base y hy)), fun y hy => ?_⟩
 rcases mem_plus.1 hy with hy | hy
 ·exact h.sub y hy
 ·exact mem_clo.2 ⟨(isSet_iff.1 hn).1 y hy, fun D h1 h2 => h2 x ((mem_clo.1 (h.sub x hx)).2 D h1 h2) y hy⟩
theorem COk.done {L : List (List Int)} {set out : List Int} (h : COk L set out) (hc : isClosedB L out = true) : out = clo L set :=
 sorted_ext (isSet_iff.1 h.ok).2 (clo_sorted L set) fun x => ⟨h.sub x, fun hx => by
  have := (mem_clo.1 hx).2 (fun y => decide (y ∈ out)) (fun y hy => by simpa using h.base y hy) (fun y hy z hz => by
   simp only [decide_eq_true_eq] at hy ⊢
   exact isClosed_iff.1 hc y hy z hz)
  simpa using this⟩
structure CPass (L : List (List Int)) (out cur : List Int) (k : Nat) : Prop where
 sub : ∀ x ∈ out, x ∈ cur
 got : ∀ x ∈ out, x < k → ∀ y ∈ needsOf L x, y ∈ cur
theorem CPass.start (L : List (List Int)) (out : List Int) {n : Int} (h : isSet n out = true) : CPass L out out 0 :=
 ⟨fun _ hx => hx, fun x hx hk => by have := ((isSet_iff.1 h).1 x hx).1; omega⟩
theorem CPass.add {L : List (List Int)} {out cur : List Int} {k : Nat} (h : CPass L out cur k) : CPass L out (plus cur (needsOf L k)) (k + 1) :=
 ⟨fun x hx => mem_plus.2 (.inl (h.sub x hx)), fun x hx hk y hy => by
  by_cases e : x = k
  ·subst e; exact mem_plus.2 (.inr hy)
  ·exact mem_plus.2 (.inl (h.got x hx (by omega) y hy))⟩
theorem CPass.lt {L : List (List Int)} {out cur : List Int} {n : Int} (h : CPass L out cur L.length) (ho : isSet L.length out = true) (hn : isClosedB L out = false) : out.length < cur.length := by
 unfold isClosedB at hn
 obtain ⟨x, hx, hx2⟩ := List.all_eq_false.1 hn
 simp only [decide_eq_true_eq] at hx2
 obtain ⟨y, hy⟩ := List.exists_mem_of_ne_nil _ hx2
 obtain ⟨h1, h2⟩ := mem_minus.1 hy
 have hxr := (isSet_iff.1 ho).1 x hx
 have := nodup_sub_len (xs := y :: out) (ys := cur) (List.nodup_cons.2 ⟨h2, sorted_nodup (isSet_iff.1 ho).2⟩) (fun z hz => by
  rcases List.mem_cons.1 hz with rfl | hz
  ·exact h.got x hx hxr.2 _ h1
  ·exact h.sub z hz)
 simp at this
 omega
end

/- next and once over trees: a text is asked once. -/
section
open Go.RowKit
def NextGotT (w : World) (s : Nat) (ans : List Int) (used km : Nat) (a : Int) (e : Ending) (w' : World) : Prop :=
 e = .returned (.int .u8 (told a)) ∧ Fr [s] w w' ∧ SrchT w' s ans (used + 1) km
def NextAskT (w : World) (q : T) (A : Option Addr) (c : Nat) (e : Ending) (w' : World) : Prop := e = .panicked [questionT q A c] ∧ Fr [] w w'
theorem SrchT.fr0 {w w' : World} {s used km : Nat} {ans : List Int} (h : SrchT w s ans used km) (hf : Fr [] w w') : SrchT w' s ans used km := by
 obtain ⟨A, c, hb, hr, hn⟩ := h.ex
 exact ⟨A, c, hb.fr hf (by simp), hr.fr0 hf, hn⟩
theorem SrchT.lt {w : World} {s used km : Nat} {ans : List Int} (h : SrchT w s ans used km) : s < w.heap.size := by
 obtain ⟨A, c, hb, hr, hn⟩ := h.ex
 exact hb.lt
set_option maxHeartbeats 800000 in
theorem inext_gotT (s : Nat) (ans : List Int) (used km : Nat) (q : T) (D : Option Addr) (d : Nat) (a : Int) (w : World) (h : SrchT w s ans used km) (ha : ans[used]? = some a) :
  Calls Tryz.prog 83 #[.pointer (some ⟨s, 0, none⟩), .agg #[.int .i64 q.kind, .string q.text, .slice D q.slots.length d]] w (NextGotT w s ans used km a) := by
 obtain ⟨W, hW⟩ : ∃ W, W = w.alloc (.cells #[.int .i64 q.kind, .string q.text, .slice D q.slots.length d] 27) := ⟨_, rfl⟩
 have hFW : Fr [] w W := by rw [hW]; exact frx
 obtain ⟨A, c, hb, hr, hna⟩ := (h.fr0 hFW).ex
 have hu : used < ans.length := (List.getElem?_eq_some_iff.1 ha).1
 have hbd := hr.bound
 obtain ⟨b1, o1, x, rfl, hx, hc⟩ := hr.at_ hu
 obtain rfl : a = x := by have := ha.symm.trans hx.out; simpa using this
 clear ha
 have c0 := hb.cell 0 rfl
 have c1 := hb.cell 1 rfl
 have f1 := hb.frozen 1
 have hne := hna (by omega) _ rfl
 have hbe : ((used : Int) == ans.length) = false := by simp; omega
 have HW := Lib.hid hW.symm
 clear hW
 go_enter Tryz.func83, Tryz.ntmps83
 go_wp2_with fail
 rw [HW.out]
 go_quiet (fail)
 go_wp2
 go_quiet ((go_at_call 92; first | exact quiet_of (plain_any _ _) | exact quiet_add (plain_any _ _)))
 go_wp2
 go_ret
 refine ⟨rfl, (hFW.mono (by simp)).trans frx, ?_⟩
 exact ⟨_, c, ((hb.set_ 1 _).drewN _).drewN _, ((hr.setCell1 (Nat.ne_of_lt hne) _).drewN _).drewN _, hna⟩
set_option maxHeartbeats 800000 in
theorem inext_askT (s : Nat) (ans : List Int) (used km : Nat) (q : T) (D : Option Addr) (d : Nat) (w : World) (h : SrchT w s ans used km) (hu : used = ans.length) :
  Calls Tryz.prog 83 #[.pointer (some ⟨s, 0, none⟩), .agg #[.int .i64 q.kind, .string q.text, .slice D q.slots.length d]] w (NextAskT w q D d) := by
 obtain ⟨W, hW⟩ : ∃ W, W = w.alloc (.cells #[.int .i64 q.kind, .string q.text, .slice D q.slots.length d] 27) := ⟨_, rfl⟩
 have hFW : Fr [] w W := by rw [hW]; exact frx
 have hBt : Blk W w.heap.size 27 #[.int .i64 q.kind, .string q.text, .slice D q.slots.length d] := by rw [hW]; exact Blk.new _ _ _ _ rfl
 obtain ⟨A, c, hb, hr, hna⟩ := (h.fr0 hFW).ex
 have hbd := hr.bound
 have c0 := hb.cell 0 rfl
 have c1 := hb.cell 1 rfl
 have y0 := hBt.cell 0 rfl
 have y1 := hBt.cell 1 rfl
 have y2 := hBt.cell 2 rfl
 have hbe : ((used : Int) == ans.length) = true := by simp; omega
 have HW := Lib.hid hW.symm
 clear hu hW
 go_enter Tryz.func83, Tryz.ntmps83
 go_wp2_with fail
 rw [HW.out]
 go_quiet (fail)
 have hp := fun w => run_panic_iface (P := Tryz.prog) w 97 (.agg #[.int .i64 q.kind, .string q.text, .slice D q.slots.length d])
 go_wp2
 exact ⟨rfl, rfl, hFW.drewN _⟩
def askVT (ans : List Int) (used : Nat) (kn : KnT) (k : Bs) : Option (Int × Nat × KnT) :=
  match @List.lookup Bs Int instBEqOfDecidableEq k kn with
  | some v => some (v, used, kn)
  | none => match ans[used]? with
    | some a => some (told a, used + 1, kn ++ [(k, told a)])
    | none => none
theorem askV_knownT {ans : List Int} {used : Nat} {kn : KnT} {q : Bs} {v : Int} (h : @List.lookup Bs Int instBEqOfDecidableEq q kn = some v) : askVT ans used kn q = some (v, used, kn) := by simp [askVT, h]
theorem askV_gotT {ans : List Int} {used : Nat} {kn : KnT} {q : Bs} {a : Int} (h : @List.lookup Bs Int instBEqOfDecidableEq q kn = none) (ha : ans[used]? = some a) : askVT ans used kn q = some (told a, used + 1, kn ++ [(q, told a)]) := by simp [askVT, h, ha]
theorem askV_askT {ans : List Int} {used : Nat} {kn : KnT} {q : Bs} (h : @List.lookup Bs Int instBEqOfDecidableEq q kn = none) (ha : ans[used]? = none) : askVT ans used kn q = none := by simp [askVT, h, ha]
structure SKT (w : World) (s km : Nat) (ans : List Int) (used : Nat) (kn : KnT) : Prop where
 srch : SrchT w s ans used km
 map : MapAt w km bsVal (Value.int .u8) kn
 ne : s ≠ km
 le : used ≤ ans.length
theorem SKT.fr {S : List Nat} {w w' : World} {s km used : Nat} {ans : List Int} {kn : KnT} (h : SKT w s km ans used kn) (hf : Fr S w w') (h1 : s ∉ S) (h2 : km ∉ S) (h3 : ∀ x ∈ S, s < x) : SKT w' s km ans used kn := by
 refine ⟨?_, h.map.fr hf h2, h.ne, h.le⟩
 obtain ⟨A, c, hb, hr, hn⟩ := h.srch.ex
 refine ⟨A, c, hb.fr hf h1, hr.fr hf fun h0 a ha hm => ?_, hn⟩
 have := hn h0 a ha
 have := h3 _ hm
 omega
theorem SKT.fr0 {w w' : World} {s km used : Nat} {ans : List Int} {kn : KnT} (h : SKT w s km ans used kn) (hf : Fr [] w w') : SKT w' s km ans used kn := h.fr hf (by simp) (by simp) (by simp)
theorem SKT.lt {w : World} {s km used : Nat} {ans : List Int} {kn : KnT} (h : SKT w s km ans used kn) : s < w.heap.size ∧ km < w.heap.size := by
 obtain ⟨A, c, hb, _⟩ := h.srch.ex
 exact ⟨hb.lt, h.map.lt⟩
theorem keyKT : KeyT Tryz.prog 9 .string bsVal := keyStr Tryz.underlying9 (fun l : Bs => l) fun _ _ h => h
def OnceGotT (w : World) (s km : Nat) (ans : List Int) (v : Int) (used : Nat) (kn : KnT) (e : Ending) (w' : World) : Prop :=
 e = .returned (.int .u8 v) ∧ Fr [s, km] w w' ∧ SKT w' s km ans used kn
set_option maxHeartbeats 1600000 in
theorem once_gotT (s km : Nat) (ans : List Int) (used : Nat) (kn : KnT) (k : Bs) (q : T) (D : Option Addr) (d : Nat) (w : World) (h : SKT w s km ans used kn) {v : Int} {u : Nat} {kn' : KnT} (ha : askVT ans used kn k = some (v, u, kn')) :
  Calls Tryz.prog 57 #[.pointer (some ⟨s, 0, none⟩), bsVal k, .agg #[.int .i64 q.kind, .string q.text, .slice D q.slots.length d]] w (OnceGotT w s km ans v u kn') := by
 obtain ⟨W, hW⟩ : ∃ W, W = w.alloc (.cells #[.int .i64 q.kind, .string q.text, .slice D q.slots.length d] 27) := ⟨_, rfl⟩
 have hFW : Fr [] w W := by rw [hW]; exact frx
 have hBt : Blk W w.heap.size 27 #[.int .i64 q.kind, .string q.text, .slice D q.slots.length d] := by rw [hW]; exact Blk.new _ _ _ _ rfl
 have h := h.fr0 hFW
 obtain ⟨A, c, hb, hr, hna⟩ := h.srch.ex
 have c2 := hb.cell 2 rfl
 have y0 := hBt.cell 0 rfl
 have y1 := hBt.cell 1 rfl
 have y2 := hBt.cell 2 rfl
 have hlk := run_lookup_at keyKT Tryz.underlying98 0 (zeroV _) h.map k
 rw [hW] at c2 y0 y1 y2 hlk
 have HW := Lib.hid hW.symm
 clear hW
 rcases hl : @List.lookup Bs Int instBEqOfDecidableEq k kn with _ | v'
 ·rcases hans : ans[used]? with _ | a
  ·rw [askV_askT hl hans] at ha
   cases ha
  ·rw [askV_gotT hl hans] at ha
   simp only [Option.some.injEq, Prod.mk.injEq] at ha
   obtain ⟨rfl, rfl, rfl⟩ := ha
   have hlt : used < ans.length := (List.getElem?_eq_some_iff.1 hans).1
   rw [hl] at hlk
   simp only [Option.getD_none, Option.isSome_none] at hlk
   have HL := Lib.hid hl
   have HA := Lib.hid hans
   clear hl hans
   go_enter Tryz.func57, Tryz.ntmps57
   go_wp2_with fail
   rw [HW.out]
   refine (inext_gotT s ans used km q D d a _ h.srch HA.out).mono ?_
   rintro e w2 ⟨rfl, hf2, hs2⟩
   have hm2 := h.map.fr hf2 (by simpa using h.ne.symm)
   obtain ⟨A2, d2, hb2, hr2, hna2⟩ := hs2.ex
   have e2 := hb2.cell 2 rfl
   go_wp2_with (refine wpList_store_new rfl (.tmp 26) (.tmp 27) (.tmp 28) _ rfl keyKT Tryz.underlying98 hm2 k (told a) rfl rfl rfl HL.out ?_; intro w3 hm3 hf3)
   go_ret
   refine ⟨rfl, ((hFW.mono (by simp)).trans (hf2.mono (by simp))).trans (hf3.mono (by simp)), ?_, hm3, h.ne, by omega⟩
   refine ⟨A2, d2, hb2.fr hf3 (by simpa using h.ne), hr2.fr hf3 fun h0 x hx => ?_, hna2⟩
   simpa using hr2.apartM hm2 h0 x hx
 ·rw [askV_knownT hl] at ha
  simp only [Option.some.injEq, Prod.mk.injEq] at ha
  obtain ⟨rfl, rfl, rfl⟩ := ha
  rw [hl] at hlk
  simp only [Option.getD_some, Option.isSome_some] at hlk
  clear hl
  go_enter Tryz.func57, Tryz.ntmps57
  go_wp2
  go_ret
  rw [HW.out]
  exact ⟨rfl, hFW.mono (by simp), h⟩
set_option maxHeartbeats 1600000 in
theorem once_askT (s km : Nat) (ans : List Int) (used : Nat) (kn : KnT) (k : Bs) (q : T) (D : Option Addr) (d : Nat) (w : World) (h : SKT w s km ans used kn) (ha : askVT ans used kn k = none) :
  Calls Tryz.prog 57 #[.pointer (some ⟨s, 0, none⟩), bsVal k, .agg #[.int .i64 q.kind, .string q.text, .slice D q.slots.length d]] w (NextAskT w q D d) := by
 obtain ⟨W, hW⟩ : ∃ W, W = w.alloc (.cells #[.int .i64 q.kind, .string q.text, .slice D q.slots.length d] 27) := ⟨_, rfl⟩
 have hFW : Fr [] w W := by rw [hW]; exact frx
 have hBt : Blk W w.heap.size 27 #[.int .i64 q.kind, .string q.text, .slice D q.slots.length d] := by rw [hW]; exact Blk.new _ _ _ _ rfl
 have h := h.fr0 hFW
 obtain ⟨A, c, hb, hr, hna⟩ := h.srch.ex
 have c2 := hb.cell 2 rfl
 have y0 := hBt.cell 0 rfl
 have y1 := hBt.cell 1 rfl
 have y2 := hBt.cell 2 rfl
 have hlk := run_lookup_at keyKT Tryz.underlying98 0 (zeroV _) h.map k
 rw [hW] at c2 y0 y1 y2 hlk
 have HW := Lib.hid hW.symm
 clear hW
 rcases hl : @List.lookup Bs Int instBEqOfDecidableEq k kn with _ | v'
 ·rcases hans : ans[used]? with _ | a
  ·have hlen : used = ans.length := by
    have := List.getElem?_eq_none_iff.1 hans
    have := h.le
    omega
   rw [hl] at hlk
   simp only [Option.getD_none, Option.isSome_none] at hlk
   clear hl hans ha
   go_enter Tryz.func57, Tryz.ntmps57
   go_wp2_with fail
   rw [HW.out]
   refine (inext_askT s ans used km q D d _ h.srch hlen).mono ?_
   rintro e w2 ⟨rfl, hf2⟩
   go_wp2
   exact ⟨rfl, rfl, hFW.trans hf2⟩
  ·rw [askV_gotT hl hans] at ha
   cases ha
 ·rw [askV_knownT hl] at ha
  cases ha
end

end Go.Proofs.YtippadnbngcjlaaGreatDoor
