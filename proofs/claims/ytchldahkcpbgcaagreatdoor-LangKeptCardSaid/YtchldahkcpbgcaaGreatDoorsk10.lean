/- Texts of this seat, one behind the other: PrtE, PrtF, PrtG, PrtH, PrtJ, PrtL, PrtN, PrtO, PrtT. -/
import Derived.Test.YtchldahkcpbgcaaGreatDoorsk9
import Derived.Deep.RegionHeld
import Derived.Test.YtchldahkcpbgcaaGreatDoorsk6
import Derived.Test.YtchldahkcpbgcaaGreatDoorsk1
import Derived.Lib.AppendIntMem
namespace Go.Proofs.YtchldahkcpbgcaaGreatDoor
set_option linter.unusedVariables false

/- The printer's expr, kind by kind (printed by gen/prte.py). -/
section
open Go.RowKit
set_option linter.unusedSimpArgs false
section
variable {n b : Nat} {bs : Bs} {k o : Nat} {x : Nd} {h : HdN} {lv : Nat} {inFn : Bool}
theorem rd4 (w : World) : Rd (w.alloc (.cells #[.int .u8 4] 42)) encKd (some ⟨w.heap.size, 0, none⟩) 1 [4] := by
 refine ⟨by simp, by unfold maxLen; omega, fun _ => ⟨w.heap.size, 0, rfl, fun k x hk => ?_⟩⟩
 match k, hk with
 | 0, hk => simp at hk; subst hk; exact (Blk.new _ _ _ _ rfl).cell 0 rfl
theorem rd34 (w : World) : Rd (w.alloc (.cells #[.int .u8 3, .int .u8 4] 42)) encKd (some ⟨w.heap.size, 0, none⟩) 2 [3, 4] := by
 refine ⟨by simp, by unfold maxLen; omega, fun _ => ⟨w.heap.size, 0, rfl, fun k x hk => ?_⟩⟩
 match k, hk with
 | 0, hk => simp at hk; subst hk; exact (Blk.new _ _ _ _ rfl).cell 0 rfl
 | 1, hk => simp at hk; subst hk; exact (Blk.new _ _ _ _ rfl).cell 1 rfl
set_option maxRecDepth 20000 in
set_option maxHeartbeats 6400000 in
theorem expr_k2 (w : World) (hN : NdAt w k o x h) (hH : NdH (upB b) (n + 1) w h x) (hkb : k < b) (hp : PrW b bs w) (hk : x.kind = 2) (hlen : bs.length + (sb x.text).length ≤ 1000000000) :
  Calls Tryz.prog 104 #[pat b, .pointer (some ⟨k, o, none⟩), .int .i64 lv] w (Prs b bs (sb x.text) w) := by
 have c0 := hN.c0
 rw [hk] at c0
 go_enter Tryz.func104, Tryz.ntmps104
 go_wp2_with fail
 refine wp_region_held_drew (S := fun w' => Below b w w') (by kernel_rfl) ((Below.refl _ _).drew) (fun hHeld => ?_)
 refine wpAnyH_take (i := 0) (v := ?_) rfl (by kernel_rfl) (by kernel_rfl) (by kernel_rfl) (fun _ _ _ h => h) (Or.inl ⟨by rfl, fun w hSw => ?_⟩) (by assumption) ?_
 rotate_left 1
 ·(try dsimp only at hSw); go_simp; try with_reducible rfl
 try simp only [Act.put, List.setIfInBounds_toArray, List.set_cons_zero, List.set_cons_succ]
 refine wpAnyH_take (i := 1) (v := ?_) rfl (by kernel_rfl) (by kernel_rfl) (by kernel_rfl) (fun _ _ _ h => h) (Or.inl ⟨by rfl, fun w hSw => ?_⟩) (by assumption) ?_
 rotate_left 1
 ·(try dsimp only at hSw); go_simp; try with_reducible rfl
 try simp only [Act.put, List.setIfInBounds_toArray, List.set_cons_zero, List.set_cons_succ]
 refine wpAnyH_take (i := 2) (v := ?_) rfl (by kernel_rfl) (by kernel_rfl) (by kernel_rfl) (fun _ _ _ h => h) (Or.inl ⟨by rfl, fun w hSw => ?_⟩) (by assumption) ?_
 rotate_left 1
 ·(try dsimp only at hSw); go_simp; try with_reducible rfl
 try simp only [Act.put, List.setIfInBounds_toArray, List.set_cons_zero, List.set_cons_succ]
 refine wpAnyH_take (i := 3) (v := ?_) rfl (by kernel_rfl) (by kernel_rfl) (by kernel_rfl) (fun _ _ _ h => h) (Or.inl ⟨by rfl, fun w hSw => ?_⟩) (by assumption) ?_
 rotate_left 1
 ·(try dsimp only at hSw); go_simp; try with_reducible rfl
 try simp only [Act.put, List.setIfInBounds_toArray, List.set_cons_zero, List.set_cons_succ]
 refine wpAnyH_take (i := 4) (v := ?_) rfl (by kernel_rfl) (by kernel_rfl) (by kernel_rfl) (fun _ _ _ h => h) (Or.inl ⟨by rfl, fun w hSw => ?_⟩) (by assumption) ?_
 rotate_left 1
 ·(try dsimp only at hSw); go_simp; try with_reducible rfl
 try simp only [Act.put, List.setIfInBounds_toArray, List.set_cons_zero, List.set_cons_succ]
 refine wpAnyH_take (i := 5) (v := ?_) rfl (by kernel_rfl) (by kernel_rfl) (by kernel_rfl) (fun _ _ _ h => h) (Or.inl ⟨by rfl, fun w hSw => ?_⟩) (by assumption) ?_
 rotate_left 1
 ·(try dsimp only at hSw); go_simp; try with_reducible rfl
 try simp only [Act.put, List.setIfInBounds_toArray, List.set_cons_zero, List.set_cons_succ]
 refine wpAnyH_take (i := 6) (v := ?_) rfl (by kernel_rfl) (by kernel_rfl) (by kernel_rfl) (fun _ _ _ h => h) (Or.inl ⟨by rfl, fun w hSw => ?_⟩) (by assumption) ?_
 rotate_left 1
 ·(try dsimp only at hSw)
  have q1 := (hN.below hSw hkb).c1
  go_simp
  try with_reducible rfl
 try simp only [Act.put, List.setIfInBounds_toArray, List.set_cons_zero, List.set_cons_succ]
 refine wpAnyH_ready (rs := [7]) (by kernel_rfl) (by simp) ?_
 refine AllReadyH.cons rfl (fun K hK => ?_) AllReadyH.nil
 go_simp
 refine (pr_strE b bs (sb x.text) _ w.drew hp rfl (by omega)).mono ?_
 rintro e w2 ⟨m, rfl, hp2, hf2⟩
 have hf2 := (Below.refl b w).drew.trans hf2
 refine hK.out _ _ (hf2) (fun hHeld2 => ?_)
 clear hK K hHeld
 have hHeld := hHeld2
 clear hHeld2
 try simp only [Act.put, List.setIfInBounds_toArray, List.set_cons_zero, List.set_cons_succ]
 refine wpAnyH_done (by kernel_rfl) ?_ _
 go_wp2
 go_end0
 exact ⟨rfl, hp2, hf2⟩
set_option maxRecDepth 20000 in
set_option maxHeartbeats 6400000 in
theorem expr_k11 (w : World) (hN : NdAt w k o x h) (hH : NdH (upB b) (n + 1) w h x) (hkb : k < b) (hp : PrW b bs w) (hk : x.kind = 11) (hlen : bs.length + 5 ≤ 1000000000) :
  Calls Tryz.prog 104 #[pat b, .pointer (some ⟨k, o, none⟩), .int .i64 lv] w (Prs b bs [105, 110, 112, 117, 116] w) := by
 have c0 := hN.c0
 rw [hk] at c0
 go_enter Tryz.func104, Tryz.ntmps104
 go_wp2_with fail
 refine (pr_strE b bs [105, 110, 112, 117, 116] _ _ hp rfl (by show _ + 5 ≤ _; omega)).mono ?_
 rintro e w2 ⟨m, rfl, hp2, hf2⟩
 go_wp2
 go_end0
 exact ⟨rfl, hp2, hf2⟩
set_option maxRecDepth 20000 in
set_option maxHeartbeats 6400000 in
theorem expr_k12 (w : World) (hN : NdAt w k o x h) (hH : NdH (upB b) (n + 1) w h x) (hkb : k < b) (hp : PrW b bs w) (hk : x.kind = 12) (hlen : bs.length + 5 ≤ 1000000000) :
  Calls Tryz.prog 104 #[pat b, .pointer (some ⟨k, o, none⟩), .int .i64 lv] w (Prs b bs [99, 108, 111, 99, 107] w) := by
 have c0 := hN.c0
 rw [hk] at c0
 go_enter Tryz.func104, Tryz.ntmps104
 go_wp2_with fail
 refine (pr_strE b bs [99, 108, 111, 99, 107] _ _ hp rfl (by show _ + 5 ≤ _; omega)).mono ?_
 rintro e w2 ⟨m, rfl, hp2, hf2⟩
 go_wp2
 go_end0
 exact ⟨rfl, hp2, hf2⟩
set_option maxRecDepth 20000 in
set_option maxHeartbeats 6400000 in
theorem expr_k7 (w : World) (hN : NdAt w k o x h) (hH : NdH (upB b) (n + 1) w h x) (hkb : k < b) (hp : PrW b bs w) (hL : ListP (n + 1)) (hk : x.kind = 7) (ho : lsB true inFn x.subs = true) (hlen : bs.length + (callB [110, 101, 119] (exprsB x.subs lv)).length ≤ 1000000000) (hlv : lv + (n + 1) ≤ 1000000) :
  Calls Tryz.prog 104 #[pat b, .pointer (some ⟨k, o, none⟩), .int .i64 lv] w (Prs b bs (callB [110, 101, 119] (exprsB x.subs lv)) w) := by
 have c3 := hN.c3
 have HC := Lib.hid (call_stepP (n + 1) hL b bs ⟨#[110, 101, 119]⟩ [110, 101, 119] rfl h.As h.cs x.subs lv inFn w hH.subs ho hp hlen hlv)
 have c0 := hN.c0
 rw [hk] at c0
 go_enter Tryz.func104, Tryz.ntmps104
 go_wp2_with fail
 refine HC.out.mono ?_
 rintro e w2 ⟨rfl, hp2, hf2⟩
 go_wp2
 go_end0
 exact ⟨rfl, hp2, hf2⟩
set_option maxRecDepth 20000 in
set_option maxHeartbeats 6400000 in
theorem expr_k9 (w : World) (hN : NdAt w k o x h) (hH : NdH (upB b) (n + 1) w h x) (hkb : k < b) (hp : PrW b bs w) (hL : ListP (n + 1)) (hk : x.kind = 9) (ho : lsB true inFn x.subs = true) (hlen : bs.length + (callB [108, 101, 110] (exprsB x.subs lv)).length ≤ 1000000000) (hlv : lv + (n + 1) ≤ 1000000) :
  Calls Tryz.prog 104 #[pat b, .pointer (some ⟨k, o, none⟩), .int .i64 lv] w (Prs b bs (callB [108, 101, 110] (exprsB x.subs lv)) w) := by
 have c3 := hN.c3
 have HC := Lib.hid (call_stepP (n + 1) hL b bs ⟨#[108, 101, 110]⟩ [108, 101, 110] rfl h.As h.cs x.subs lv inFn w hH.subs ho hp hlen hlv)
 have c0 := hN.c0
 rw [hk] at c0
 go_enter Tryz.func104, Tryz.ntmps104
 go_wp2_with fail
 refine HC.out.mono ?_
 rintro e w2 ⟨rfl, hp2, hf2⟩
 go_wp2
 go_end0
 exact ⟨rfl, hp2, hf2⟩
set_option maxRecDepth 20000 in
set_option maxHeartbeats 6400000 in
theorem expr_k3 (w : World) (hN : NdAt w k o x h) (hH : NdH (upB b) (n + 1) w h x) (hkb : k < b) (hp : PrW b bs w) (hE : ExprP n) (kb off : Nat) (y : Nd) (hy : HdN) (hA : h.As = some ⟨kb, off, none⟩) (hl1 : 1 ≤ x.subs.length) (hNy : NdAt w kb off y hy) (hHy : NdH (upB b) n w hy y) (hkb2 : kb < b) (hy1 : isExprK y.kind = true) (hy2 : y.okB inFn = true) (hk : x.kind = 3) (hlen : bs.length + (sb x.text ++ parB [4] y.kind (y.exprB lv)).length ≤ 1000000000) (hlv : lv + (n + 1) ≤ 1000000) :
  Calls Tryz.prog 104 #[pat b, .pointer (some ⟨k, o, none⟩), .int .i64 lv] w (Prs b bs (sb x.text ++ parB [4] y.kind (y.exprB lv)) w) := by
 simp only [List.length_append] at hlen
 have c0 := hN.c0
 rw [hk] at c0
 go_enter Tryz.func104, Tryz.ntmps104
 go_wp2_with fail
 refine wp_region_held_drew (S := fun w' => Below b w w') (by kernel_rfl) ((Below.refl _ _).drew) (fun hHeld => ?_)
 refine wpAnyH_take (i := 0) (v := ?_) rfl (by kernel_rfl) (by kernel_rfl) (by kernel_rfl) (fun _ _ _ h => h) (Or.inl ⟨by rfl, fun w hSw => ?_⟩) (by assumption) ?_
 rotate_left 1
 ·(try dsimp only at hSw); go_simp; try with_reducible rfl
 try simp only [Act.put, List.setIfInBounds_toArray, List.set_cons_zero, List.set_cons_succ]
 refine wpAnyH_take (i := 1) (v := ?_) rfl (by kernel_rfl) (by kernel_rfl) (by kernel_rfl) (fun _ _ _ h => h) (Or.inl ⟨by rfl, fun w hSw => ?_⟩) (by assumption) ?_
 rotate_left 1
 ·(try dsimp only at hSw); go_simp; try with_reducible rfl
 try simp only [Act.put, List.setIfInBounds_toArray, List.set_cons_zero, List.set_cons_succ]
 refine wpAnyH_take (i := 2) (v := ?_) rfl (by kernel_rfl) (by kernel_rfl) (by kernel_rfl) (fun _ _ _ h => h) (Or.inl ⟨by rfl, fun w hSw => ?_⟩) (by assumption) ?_
 rotate_left 1
 ·(try dsimp only at hSw); go_simp; try with_reducible rfl
 try simp only [Act.put, List.setIfInBounds_toArray, List.set_cons_zero, List.set_cons_succ]
 refine wpAnyH_take (i := 3) (v := ?_) rfl (by kernel_rfl) (by kernel_rfl) (by kernel_rfl) (fun _ _ _ h => h) (Or.inl ⟨by rfl, fun w hSw => ?_⟩) (by assumption) ?_
 rotate_left 1
 ·(try dsimp only at hSw); go_simp; try with_reducible rfl
 try simp only [Act.put, List.setIfInBounds_toArray, List.set_cons_zero, List.set_cons_succ]
 refine wpAnyH_take (i := 4) (v := ?_) rfl (by kernel_rfl) (by kernel_rfl) (by kernel_rfl) (fun _ _ _ h => h) (Or.inl ⟨by rfl, fun w hSw => ?_⟩) (by assumption) ?_
 rotate_left 1
 ·(try dsimp only at hSw); go_simp; try with_reducible rfl
 try simp only [Act.put, List.setIfInBounds_toArray, List.set_cons_zero, List.set_cons_succ]
 refine wpAnyH_take (i := 5) (v := ?_) rfl (by kernel_rfl) (by kernel_rfl) (by kernel_rfl) (fun _ _ _ h => h) (Or.inl ⟨by rfl, fun w hSw => ?_⟩) (by assumption) ?_
 rotate_left 1
 ·(try dsimp only at hSw); go_simp; try with_reducible rfl
 try simp only [Act.put, List.setIfInBounds_toArray, List.set_cons_zero, List.set_cons_succ]
 refine wpAnyH_take (i := 6) (v := ?_) rfl (by kernel_rfl) (by kernel_rfl) (by kernel_rfl) (fun _ _ _ h => h) (Or.inl ⟨by rfl, fun w hSw => ?_⟩) (by assumption) ?_
 rotate_left 1
 ·(try dsimp only at hSw)
  have q1 := (hN.below hSw hkb).c1
  go_simp
  try with_reducible rfl
 try simp only [Act.put, List.setIfInBounds_toArray, List.set_cons_zero, List.set_cons_succ]
 refine wpAnyH_ready (rs := [7]) (by kernel_rfl) (by simp) ?_
 refine AllReadyH.cons rfl (fun K hK => ?_) AllReadyH.nil
 go_simp
 refine (pr_strE b bs (sb x.text) _ w.drew hp rfl (by omega)).mono ?_
 rintro e w2 ⟨m, rfl, hp2, hf2⟩
 have hf2 := (Below.refl b w).drew.trans hf2
 refine hK.out _ _ (hf2) (fun hHeld2 => ?_)
 clear hK K hHeld
 have hHeld := hHeld2
 clear hHeld2
 try simp only [Act.put, List.setIfInBounds_toArray, List.set_cons_zero, List.set_cons_succ]
 refine wpAnyH_done (by kernel_rfl) ?_ _
 have c3 := (hN.below hf2 hkb).c3
 rw [hA] at c3
 go_wp2_with fail
 have hB4 := (hf2).alloc (Nat.le_of_lt hp2.lt) (.cells #[.int .u8 4] 42)
 refine (operand_stepP n hE b _ kb off y hy lv inFn [4] (some ⟨w2.heap.size, 0, none⟩) 1 _ (hNy.below hB4 hkb2) (hHy.below hB4) hkb2 hy1 hy2 (rd4 _) (hp2.alloc _) (by simp only [List.length_append]; omega) (by omega)).mono ?_
 rintro e w4 ⟨rfl, hp4, hf4⟩
 have hf4 := hB4.trans hf4
 go_wp2
 go_end0
 exact ⟨rfl, by simpa only [List.append_assoc, List.cons_append, List.nil_append] using hp4, hf4⟩
end
end

/- The printer's expr, kind by kind (printed by gen/prte.py). -/
section
open Go.RowKit
set_option linter.unusedSimpArgs false
section
variable {n b : Nat} {bs : Bs} {k o : Nat} {x : Nd} {h : HdN} {lv : Nat} {inFn : Bool}
set_option maxRecDepth 20000 in
set_option maxHeartbeats 800000 in
theorem expr_k4 (w : World) (hN : NdAt w k o x h) (hH : NdH (upB b) (n + 1) w h x) (hkb : k < b) (hp : PrW b bs w) (hE : ExprP n) (kb off : Nat) (y : Nd) (hy : HdN) (hA : h.As = some ⟨kb, off, none⟩) (hl1 : 1 ≤ x.subs.length) (hNy : NdAt w kb off y hy) (hHy : NdH (upB b) n w hy y) (hkb2 : kb < b) (hy1 : isExprK y.kind = true) (hy2 : y.okB inFn = true) (z : Nd) (hz : HdN) (hl2 : 2 ≤ x.subs.length) (hNz : NdAt w kb (off + 7) z hz) (hHz : NdH (upB b) n w hz z) (hz1 : isExprK z.kind = true) (hz2 : z.okB inFn = true) (hk : x.kind = 4) (hlen : bs.length + (parB [4] y.kind (y.exprB lv) ++ ([32] ++ sb x.text ++ [32]) ++ parB [4] z.kind (z.exprB lv)).length ≤ 1000000000) (hlv : lv + (n + 1) ≤ 1000000) :
  Calls Tryz.prog 104 #[pat b, .pointer (some ⟨k, o, none⟩), .int .i64 lv] w (Prs b bs (parB [4] y.kind (y.exprB lv) ++ ([32] ++ sb x.text ++ [32]) ++ parB [4] z.kind (z.exprB lv)) w) := by
 simp only [List.length_append, List.length_cons, List.length_nil, sb_len] at hlen
 have hs1 : 1 + x.text.size ≤ 9223372036854775807 := by omega
 have hs2 : 1 + x.text.size + 1 ≤ 9223372036854775807 := by omega
 have c3 := hN.c3
 rw [hA] at c3
 have c0 := hN.c0
 rw [hk] at c0
 go_enter Tryz.func104, Tryz.ntmps104
 go_wp2_with fail
 have hB4 := (Below.refl b w).alloc (Nat.le_of_lt hp.lt) (.cells #[.int .u8 4] 42)
 refine (operand_stepP n hE b _ kb off y hy lv inFn [4] (some ⟨w.heap.size, 0, none⟩) 1 _ (hNy.below hB4 hkb2) (hHy.below hB4) hkb2 hy1 hy2 (rd4 _) (hp.alloc _) (by omega) (by omega)).mono ?_
 rintro e w4 ⟨rfl, hp4, hf4⟩
 have hf4 := hB4.trans hf4
 have hN4 := hN.below hf4 hkb
 have HT : Hid (sb (⟨#[32]⟩ ++ x.text ++ ⟨#[32]⟩) = [32] ++ sb x.text ++ [32]) := Lib.hid (by rw [sb_app, sb_app]; rfl)
 go_wp2_with fail
 refine wp_region_held_drew (S := fun w' => Below b w4 w') (by kernel_rfl) ((Below.refl _ _).drew) (fun hHeld => ?_)
 refine wpAnyH_take (i := 0) (v := ?_) rfl (by kernel_rfl) (by kernel_rfl) (by kernel_rfl) (fun _ _ _ h => h) (Or.inl ⟨by rfl, fun w hSw => ?_⟩) (by assumption) ?_
 rotate_left 1
 ·(try dsimp only at hSw); go_simp; try with_reducible rfl
 try simp only [Act.put, List.setIfInBounds_toArray, List.set_cons_zero, List.set_cons_succ]
 refine wpAnyH_take (i := 1) (v := ?_) rfl (by kernel_rfl) (by kernel_rfl) (by kernel_rfl) (fun _ _ _ h => h) (Or.inl ⟨by rfl, fun w hSw => ?_⟩) (by assumption) ?_
 rotate_left 1
 ·(try dsimp only at hSw); go_simp; try with_reducible rfl
 try simp only [Act.put, List.setIfInBounds_toArray, List.set_cons_zero, List.set_cons_succ]
 refine wpAnyH_take (i := 2) (v := ?_) rfl (by kernel_rfl) (by kernel_rfl) (by kernel_rfl) (fun _ _ _ h => h) (Or.inl ⟨by rfl, fun w hSw => ?_⟩) (by assumption) ?_
 rotate_left 1
 ·(try dsimp only at hSw); go_simp; try with_reducible rfl
 try simp only [Act.put, List.setIfInBounds_toArray, List.set_cons_zero, List.set_cons_succ]
 refine wpAnyH_take (i := 3) (v := ?_) rfl (by kernel_rfl) (by kernel_rfl) (by kernel_rfl) (fun _ _ _ h => h) (Or.inl ⟨by rfl, fun w hSw => ?_⟩) (by assumption) ?_
 rotate_left 1
 ·(try dsimp only at hSw); go_simp; try with_reducible rfl
 try simp only [Act.put, List.setIfInBounds_toArray, List.set_cons_zero, List.set_cons_succ]
 refine wpAnyH_take (i := 4) (v := ?_) rfl (by kernel_rfl) (by kernel_rfl) (by kernel_rfl) (fun _ _ _ h => h) (Or.inl ⟨by rfl, fun w hSw => ?_⟩) (by assumption) ?_
 rotate_left 1
 ·(try dsimp only at hSw); go_simp; try with_reducible rfl
 try simp only [Act.put, List.setIfInBounds_toArray, List.set_cons_zero, List.set_cons_succ]
 refine wpAnyH_take (i := 5) (v := ?_) rfl (by kernel_rfl) (by kernel_rfl) (by kernel_rfl) (fun _ _ _ h => h) (Or.inl ⟨by rfl, fun w hSw => ?_⟩) (by assumption) ?_
 rotate_left 1
 ·(try dsimp only at hSw); go_simp; try with_reducible rfl
 try simp only [Act.put, List.setIfInBounds_toArray, List.set_cons_zero, List.set_cons_succ]
 refine wpAnyH_take (i := 6) (v := ?_) rfl (by kernel_rfl) (by kernel_rfl) (by kernel_rfl) (fun _ _ _ h => h) (Or.inl ⟨by rfl, fun w hSw => ?_⟩) (by assumption) ?_
 rotate_left 1
 ·(try dsimp only at hSw)
  have q1 := (hN4.below hSw hkb).c1
  go_simp
  try with_reducible rfl
 try simp only [Act.put, List.setIfInBounds_toArray, List.set_cons_zero, List.set_cons_succ]
 refine wpAnyH_take (i := 7) (v := .string (⟨#[32]⟩ ++ x.text)) rfl (by kernel_rfl) (by kernel_rfl) (by kernel_rfl) (fun _ _ _ h => h) (Or.inl ⟨by rfl, fun w hSw => ?_⟩) (by assumption) ?_
 ·(try dsimp only at hSw)
  go_simp
  first | done | rw [if_neg (by omega)]
 try simp only [Act.put, List.setIfInBounds_toArray, List.set_cons_zero, List.set_cons_succ]
 refine wpAnyH_take (i := 8) (v := .string (⟨#[32]⟩ ++ x.text ++ ⟨#[32]⟩)) rfl (by kernel_rfl) (by kernel_rfl) (by kernel_rfl) (fun _ _ _ h => h) (Or.inl ⟨by rfl, fun w hSw => ?_⟩) (by assumption) ?_
 ·(try dsimp only at hSw)
  go_simp
  first | done | rw [if_neg (by omega)]
 try simp only [Act.put, List.setIfInBounds_toArray, List.set_cons_zero, List.set_cons_succ]
 refine wpAnyH_ready (rs := [9]) (by kernel_rfl) (by simp) ?_
 refine AllReadyH.cons rfl (fun K hK => ?_) AllReadyH.nil
 go_simp
 refine (pr_strE b _ ([32] ++ sb x.text ++ [32]) _ w4.drew hp4 HT.out (by simp only [List.length_append, List.length_cons, List.length_nil, sb_len]; omega)).mono ?_
 rintro e w5 ⟨m, rfl, hp5, hf5⟩
 have hf5 := (Below.refl b w4).drew.trans hf5
 refine hK.out _ _ (hf5) (fun hHeld2 => ?_)
 clear hK K hHeld
 have hHeld := hHeld2
 clear hHeld2
 try simp only [Act.put, List.setIfInBounds_toArray, List.set_cons_zero, List.set_cons_succ]
 refine wpAnyH_done (by kernel_rfl) ?_ _
 have hf5 := hf4.trans hf5
 have c3 := (hN.below hf5 hkb).c3
 rw [hA] at c3
 go_wp2_with fail
 have hB6 := (hf5).alloc (Nat.le_of_lt hp5.lt) (.cells #[.int .u8 4] 42)
 refine (operand_stepP n hE b _ kb (off + 7) z hz lv inFn [4] (some ⟨w5.heap.size, 0, none⟩) 1 _ (hNz.below hB6 hkb2) (hHz.below hB6) hkb2 hz1 hz2 (rd4 _) (hp5.alloc _) (by simp only [List.length_append, List.length_cons, List.length_nil, sb_len]; omega) (by omega)).mono ?_
 rintro e w6 ⟨rfl, hp6, hf6⟩
 have hf6 := hB6.trans hf6
 go_wp2
 go_end0
 exact ⟨rfl, by simpa only [List.append_assoc, List.cons_append, List.nil_append] using hp6, hf6⟩
end
end

/- The printer's load; expr of calls and loads (printed by gen/prtg.py). -/
section
open Go.RowKit
set_option linter.unusedSimpArgs false
section
variable {n b : Nat} {bs : Bs} {k o : Nat} {x : Nd} {h : HdN} {lv : Nat} {inFn : Bool}
set_option maxRecDepth 20000 in
set_option maxHeartbeats 800000 in
theorem load_stepP (w : World) (hp : PrW b bs w) (hE : ExprP n) (kb off : Nat) (y : Nd) (hy : HdN) (hNy : NdAt w kb off y hy) (hHy : NdH (upB b) n w hy y) (hkb2 : kb < b) (hy1 : isExprK y.kind = true) (hy2 : y.okB inFn = true) (z : Nd) (hz : HdN) (hNz : NdAt w kb (off + 7) z hz) (hHz : NdH (upB b) n w hz z) (hz1 : isExprK z.kind = true) (hz2 : z.okB inFn = true) (hlen : bs.length + (parB [3, 4] y.kind (y.exprB lv) ++ [91] ++ z.exprB lv ++ [93]).length ≤ 1000000000) (hlv : lv + n ≤ 1000000) :
  Calls Tryz.prog 158 #[pat b, .pointer (some ⟨kb, off, none⟩), .pointer (some ⟨kb, off + 7, none⟩), .int .i64 lv] w (Prs b bs (parB [3, 4] y.kind (y.exprB lv) ++ [91] ++ z.exprB lv ++ [93]) w) := by
 simp only [List.length_append, List.length_cons, List.length_nil] at hlen
 go_enter Tryz.func158, Tryz.ntmps158
 go_wp2_with fail
 have hB4 := (Below.refl b w).alloc (Nat.le_of_lt hp.lt) (.cells #[.int .u8 3, .int .u8 4] 42)
 refine (operand_stepP n hE b _ kb off y hy lv inFn [3, 4] (some ⟨w.heap.size, 0, none⟩) 2 _ (hNy.below hB4 hkb2) (hHy.below hB4) hkb2 hy1 hy2 (rd34 _) (hp.alloc _) (by omega) (by omega)).mono ?_
 rintro e w4 ⟨rfl, hp4, hf4⟩
 have hf4 := hB4.trans hf4
 go_wp2_with fail
 refine (pr_byte b _ 91 _ hp4 (by simp only [List.length_append, List.length_cons, List.length_nil]; omega)).mono ?_
 rintro e w5 ⟨rfl, hp5, hf5⟩
 have hf5 := hf4.trans hf5
 go_wp2_with fail
 refine (hE b _ kb (off + 7) z hz lv inFn _ (hNz.below hf5 hkb2) (hHz.below hf5) hkb2 hz1 hz2 hp5 (by simp only [List.length_append, List.length_cons, List.length_nil]; omega) (by omega)).mono ?_
 rintro e w6 ⟨rfl, hp6, hf6⟩
 have hf6 := hf5.trans hf6
 go_wp2_with fail
 refine (pr_byte b _ 93 _ hp6 (by simp only [List.length_append, List.length_cons, List.length_nil]; omega)).mono ?_
 rintro e w7 ⟨rfl, hp7, hf7⟩
 go_wp2
 go_end0
 exact ⟨rfl, by simpa only [List.append_assoc, List.cons_append, List.nil_append] using hp7, hf6.trans hf7⟩
set_option maxRecDepth 20000 in
set_option maxHeartbeats 800000 in
theorem expr_k5 (w : World) (hN : NdAt w k o x h) (hH : NdH (upB b) (n + 1) w h x) (hkb : k < b) (hp : PrW b bs w) (hL : ListP (n + 1)) (hk : x.kind = 5) (ho : lsB true inFn x.subs = true) (hlen : bs.length + (callB (sb x.text) (exprsB x.subs lv)).length ≤ 1000000000) (hlv : lv + (n + 1) ≤ 1000000) :
  Calls Tryz.prog 104 #[pat b, .pointer (some ⟨k, o, none⟩), .int .i64 lv] w (Prs b bs (callB (sb x.text) (exprsB x.subs lv)) w) := by
 have c0 := hN.c0
 rw [hk] at c0
 go_enter Tryz.func104, Tryz.ntmps104
 go_wp2_with fail
 refine wp_region_held_drew (S := fun w' => Below b w w') (by kernel_rfl) ((Below.refl _ _).drew) (fun hHeld => ?_)
 refine wpAnyH_take (i := 0) (v := ?_) rfl (by kernel_rfl) (by kernel_rfl) (by kernel_rfl) (fun _ _ _ h => h) (Or.inl ⟨by rfl, fun w hSw => ?_⟩) (by assumption) ?_
 rotate_left 1
 ·(try dsimp only at hSw); go_simp; try with_reducible rfl
 try simp only [Act.put, List.setIfInBounds_toArray, List.set_cons_zero, List.set_cons_succ]
 refine wpAnyH_take (i := 1) (v := ?_) rfl (by kernel_rfl) (by kernel_rfl) (by kernel_rfl) (fun _ _ _ h => h) (Or.inl ⟨by rfl, fun w hSw => ?_⟩) (by assumption) ?_
 rotate_left 1
 ·(try dsimp only at hSw); go_simp; try with_reducible rfl
 try simp only [Act.put, List.setIfInBounds_toArray, List.set_cons_zero, List.set_cons_succ]
 refine wpAnyH_take (i := 2) (v := ?_) rfl (by kernel_rfl) (by kernel_rfl) (by kernel_rfl) (fun _ _ _ h => h) (Or.inl ⟨by rfl, fun w hSw => ?_⟩) (by assumption) ?_
 rotate_left 1
 ·(try dsimp only at hSw); go_simp; try with_reducible rfl
 try simp only [Act.put, List.setIfInBounds_toArray, List.set_cons_zero, List.set_cons_succ]
 refine wpAnyH_take (i := 3) (v := ?_) rfl (by kernel_rfl) (by kernel_rfl) (by kernel_rfl) (fun _ _ _ h => h) (Or.inl ⟨by rfl, fun w hSw => ?_⟩) (by assumption) ?_
 rotate_left 1
 ·(try dsimp only at hSw); go_simp; try with_reducible rfl
 try simp only [Act.put, List.setIfInBounds_toArray, List.set_cons_zero, List.set_cons_succ]
 refine wpAnyH_take (i := 4) (v := ?_) rfl (by kernel_rfl) (by kernel_rfl) (by kernel_rfl) (fun _ _ _ h => h) (Or.inl ⟨by rfl, fun w hSw => ?_⟩) (by assumption) ?_
 rotate_left 1
 ·(try dsimp only at hSw)
  have q1 := (hN.below hSw hkb).c1
  go_simp
  try with_reducible rfl
 try simp only [Act.put, List.setIfInBounds_toArray, List.set_cons_zero, List.set_cons_succ]
 refine wpAnyH_take (i := 5) (v := ?_) rfl (by kernel_rfl) (by kernel_rfl) (by kernel_rfl) (fun _ _ _ h => h) (Or.inl ⟨by rfl, fun w hSw => ?_⟩) (by assumption) ?_
 rotate_left 1
 ·(try dsimp only at hSw); go_simp; try with_reducible rfl
 try simp only [Act.put, List.setIfInBounds_toArray, List.set_cons_zero, List.set_cons_succ]
 refine wpAnyH_take (i := 6) (v := ?_) rfl (by kernel_rfl) (by kernel_rfl) (by kernel_rfl) (fun _ _ _ h => h) (Or.inl ⟨by rfl, fun w hSw => ?_⟩) (by assumption) ?_
 rotate_left 1
 ·(try dsimp only at hSw); go_simp; try with_reducible rfl
 try simp only [Act.put, List.setIfInBounds_toArray, List.set_cons_zero, List.set_cons_succ]
 refine wpAnyH_take (i := 7) (v := ?_) rfl (by kernel_rfl) (by kernel_rfl) (by kernel_rfl) (fun _ _ _ h => h) (Or.inl ⟨by rfl, fun w hSw => ?_⟩) (by assumption) ?_
 rotate_left 1
 ·(try dsimp only at hSw); go_simp; try with_reducible rfl
 try simp only [Act.put, List.setIfInBounds_toArray, List.set_cons_zero, List.set_cons_succ]
 refine wpAnyH_take (i := 8) (v := ?_) rfl (by kernel_rfl) (by kernel_rfl) (by kernel_rfl) (fun _ _ _ h => h) (Or.inl ⟨by rfl, fun w hSw => ?_⟩) (by assumption) ?_
 rotate_left 1
 ·(try dsimp only at hSw)
  have q3 := (hN.below hSw hkb).c3
  go_simp
  try with_reducible rfl
 try simp only [Act.put, List.setIfInBounds_toArray, List.set_cons_zero, List.set_cons_succ]
 refine wpAnyH_take (i := 9) (v := ?_) rfl (by kernel_rfl) (by kernel_rfl) (by kernel_rfl) (fun _ _ _ h => h) (Or.inl ⟨by rfl, fun w hSw => ?_⟩) (by assumption) ?_
 rotate_left 1
 ·(try dsimp only at hSw); go_simp; try with_reducible rfl
 try simp only [Act.put, List.setIfInBounds_toArray, List.set_cons_zero, List.set_cons_succ]
 refine wpAnyH_ready (rs := [10]) (by kernel_rfl) (by simp) ?_
 refine AllReadyH.cons rfl (fun K hK => ?_) AllReadyH.nil
 go_simp
 refine (call_stepP (n + 1) hL b bs x.text (sb x.text) rfl h.As h.cs x.subs lv inFn w.drew (hH.subs.below (Below.refl b w).drew) ho hp hlen hlv).mono ?_
 rintro e w2 ⟨rfl, hp2, hf2⟩
 have hf2 := (Below.refl b w).drew.trans hf2
 refine hK.out _ _ (hf2) (fun hHeld2 => ?_)
 clear hK K hHeld
 have hHeld := hHeld2
 clear hHeld2
 try simp only [Act.put, List.setIfInBounds_toArray, List.set_cons_zero, List.set_cons_succ]
 refine wpAnyH_done (by kernel_rfl) ?_ _
 go_wp2
 go_end0
 exact ⟨rfl, hp2, hf2⟩
set_option maxRecDepth 20000 in
set_option maxHeartbeats 800000 in
theorem expr_k13 (w : World) (hN : NdAt w k o x h) (hH : NdH (upB b) (n + 1) w h x) (hkb : k < b) (hp : PrW b bs w) (hL : ListP (n + 1)) (hk : x.kind = 13) (ho : lsB true inFn x.subs = true) (hlen : bs.length + (callB ([115, 112, 97, 119, 110, 32] ++ sb x.text) (exprsB x.subs lv)).length ≤ 1000000000) (hlv : lv + (n + 1) ≤ 1000000) :
  Calls Tryz.prog 104 #[pat b, .pointer (some ⟨k, o, none⟩), .int .i64 lv] w (Prs b bs (callB ([115, 112, 97, 119, 110, 32] ++ sb x.text) (exprsB x.subs lv)) w) := by
 have hs1 : 6 + x.text.size ≤ 9223372036854775807 := by
  have := hlen
  unfold callB at this
  simp only [List.length_append, List.length_cons, List.length_nil, sb_len] at this
  omega
 have HT : Hid (sb (⟨#[115, 112, 97, 119, 110, 32]⟩ ++ x.text) = [115, 112, 97, 119, 110, 32] ++ sb x.text) := Lib.hid (by rw [sb_app]; rfl)
 have c0 := hN.c0
 rw [hk] at c0
 go_enter Tryz.func104, Tryz.ntmps104
 go_wp2_with fail
 refine wp_region_held_drew (S := fun w' => Below b w w') (by kernel_rfl) ((Below.refl _ _).drew) (fun hHeld => ?_)
 refine wpAnyH_take (i := 0) (v := ?_) rfl (by kernel_rfl) (by kernel_rfl) (by kernel_rfl) (fun _ _ _ h => h) (Or.inl ⟨by rfl, fun w hSw => ?_⟩) (by assumption) ?_
 rotate_left 1
 ·(try dsimp only at hSw); go_simp; try with_reducible rfl
 try simp only [Act.put, List.setIfInBounds_toArray, List.set_cons_zero, List.set_cons_succ]
 refine wpAnyH_take (i := 1) (v := ?_) rfl (by kernel_rfl) (by kernel_rfl) (by kernel_rfl) (fun _ _ _ h => h) (Or.inl ⟨by rfl, fun w hSw => ?_⟩) (by assumption) ?_
 rotate_left 1
 ·(try dsimp only at hSw); go_simp; try with_reducible rfl
 try simp only [Act.put, List.setIfInBounds_toArray, List.set_cons_zero, List.set_cons_succ]
 refine wpAnyH_take (i := 2) (v := ?_) rfl (by kernel_rfl) (by kernel_rfl) (by kernel_rfl) (fun _ _ _ h => h) (Or.inl ⟨by rfl, fun w hSw => ?_⟩) (by assumption) ?_
 rotate_left 1
 ·(try dsimp only at hSw); go_simp; try with_reducible rfl
 try simp only [Act.put, List.setIfInBounds_toArray, List.set_cons_zero, List.set_cons_succ]
 refine wpAnyH_take (i := 3) (v := ?_) rfl (by kernel_rfl) (by kernel_rfl) (by kernel_rfl) (fun _ _ _ h => h) (Or.inl ⟨by rfl, fun w hSw => ?_⟩) (by assumption) ?_
 rotate_left 1
 ·(try dsimp only at hSw); go_simp; try with_reducible rfl
 try simp only [Act.put, List.setIfInBounds_toArray, List.set_cons_zero, List.set_cons_succ]
 refine wpAnyH_take (i := 4) (v := ?_) rfl (by kernel_rfl) (by kernel_rfl) (by kernel_rfl) (fun _ _ _ h => h) (Or.inl ⟨by rfl, fun w hSw => ?_⟩) (by assumption) ?_
 rotate_left 1
 ·(try dsimp only at hSw)
  have q1 := (hN.below hSw hkb).c1
  go_simp
  try with_reducible rfl
 try simp only [Act.put, List.setIfInBounds_toArray, List.set_cons_zero, List.set_cons_succ]
 refine wpAnyH_take (i := 5) (v := .string (⟨#[115, 112, 97, 119, 110, 32]⟩ ++ x.text)) rfl (by kernel_rfl) (by kernel_rfl) (by kernel_rfl) (fun _ _ _ h => h) (Or.inl ⟨by rfl, fun w hSw => ?_⟩) (by assumption) ?_
 ·(try dsimp only at hSw)
  go_simp
  first | done | rw [if_neg (by omega)]
 try simp only [Act.put, List.setIfInBounds_toArray, List.set_cons_zero, List.set_cons_succ]
 refine wpAnyH_take (i := 6) (v := ?_) rfl (by kernel_rfl) (by kernel_rfl) (by kernel_rfl) (fun _ _ _ h => h) (Or.inl ⟨by rfl, fun w hSw => ?_⟩) (by assumption) ?_
 rotate_left 1
 ·(try dsimp only at hSw); go_simp; try with_reducible rfl
 try simp only [Act.put, List.setIfInBounds_toArray, List.set_cons_zero, List.set_cons_succ]
 refine wpAnyH_take (i := 7) (v := ?_) rfl (by kernel_rfl) (by kernel_rfl) (by kernel_rfl) (fun _ _ _ h => h) (Or.inl ⟨by rfl, fun w hSw => ?_⟩) (by assumption) ?_
 rotate_left 1
 ·(try dsimp only at hSw); go_simp; try with_reducible rfl
 try simp only [Act.put, List.setIfInBounds_toArray, List.set_cons_zero, List.set_cons_succ]
 refine wpAnyH_take (i := 8) (v := ?_) rfl (by kernel_rfl) (by kernel_rfl) (by kernel_rfl) (fun _ _ _ h => h) (Or.inl ⟨by rfl, fun w hSw => ?_⟩) (by assumption) ?_
 rotate_left 1
 ·(try dsimp only at hSw); go_simp; try with_reducible rfl
 try simp only [Act.put, List.setIfInBounds_toArray, List.set_cons_zero, List.set_cons_succ]
 refine wpAnyH_take (i := 9) (v := ?_) rfl (by kernel_rfl) (by kernel_rfl) (by kernel_rfl) (fun _ _ _ h => h) (Or.inl ⟨by rfl, fun w hSw => ?_⟩) (by assumption) ?_
 rotate_left 1
 ·(try dsimp only at hSw)
  have q3 := (hN.below hSw hkb).c3
  go_simp
  try with_reducible rfl
 try simp only [Act.put, List.setIfInBounds_toArray, List.set_cons_zero, List.set_cons_succ]
 refine wpAnyH_take (i := 10) (v := ?_) rfl (by kernel_rfl) (by kernel_rfl) (by kernel_rfl) (fun _ _ _ h => h) (Or.inl ⟨by rfl, fun w hSw => ?_⟩) (by assumption) ?_
 rotate_left 1
 ·(try dsimp only at hSw); go_simp; try with_reducible rfl
 try simp only [Act.put, List.setIfInBounds_toArray, List.set_cons_zero, List.set_cons_succ]
 refine wpAnyH_ready (rs := [11]) (by kernel_rfl) (by simp) ?_
 refine AllReadyH.cons rfl (fun K hK => ?_) AllReadyH.nil
 go_simp
 refine (call_stepP (n + 1) hL b bs (⟨#[115, 112, 97, 119, 110, 32]⟩ ++ x.text) ([115, 112, 97, 119, 110, 32] ++ sb x.text) HT.out h.As h.cs x.subs lv inFn w.drew (hH.subs.below (Below.refl b w).drew) ho hp hlen hlv).mono ?_
 rintro e w2 ⟨rfl, hp2, hf2⟩
 have hf2 := (Below.refl b w).drew.trans hf2
 refine hK.out _ _ (hf2) (fun hHeld2 => ?_)
 clear hK K hHeld
 have hHeld := hHeld2
 clear hHeld2
 try simp only [Act.put, List.setIfInBounds_toArray, List.set_cons_zero, List.set_cons_succ]
 refine wpAnyH_done (by kernel_rfl) ?_ _
 go_wp2
 go_end0
 exact ⟨rfl, hp2, hf2⟩
set_option maxRecDepth 20000 in
set_option maxHeartbeats 800000 in
theorem expr_k8 (w : World) (hN : NdAt w k o x h) (hH : NdH (upB b) (n + 1) w h x) (hkb : k < b) (hp : PrW b bs w) (hE : ExprP n) (kb off : Nat) (y : Nd) (hy : HdN) (hA : h.As = some ⟨kb, off, none⟩) (hl1 : 1 ≤ x.subs.length) (hNy : NdAt w kb off y hy) (hHy : NdH (upB b) n w hy y) (hkb2 : kb < b) (hy1 : isExprK y.kind = true) (hy2 : y.okB inFn = true) (z : Nd) (hz : HdN) (hl2 : 2 ≤ x.subs.length) (hNz : NdAt w kb (off + 7) z hz) (hHz : NdH (upB b) n w hz z) (hz1 : isExprK z.kind = true) (hz2 : z.okB inFn = true) (hk : x.kind = 8) (hlen : bs.length + (parB [3, 4] y.kind (y.exprB lv) ++ [91] ++ z.exprB lv ++ [93]).length ≤ 1000000000) (hlv : lv + (n + 1) ≤ 1000000) :
  Calls Tryz.prog 104 #[pat b, .pointer (some ⟨k, o, none⟩), .int .i64 lv] w (Prs b bs (parB [3, 4] y.kind (y.exprB lv) ++ [91] ++ z.exprB lv ++ [93]) w) := by
 have hbd := hH.subs.bound
 have c0 := hN.c0
 rw [hk] at c0
 go_enter Tryz.func104, Tryz.ntmps104
 go_wp2_with fail
 refine wp_region_held_drew (S := fun w' => Below b w w') (by kernel_rfl) ((Below.refl _ _).drew) (fun hHeld => ?_)
 refine wpAnyH_take (i := 0) (v := ?_) rfl (by kernel_rfl) (by kernel_rfl) (by kernel_rfl) (fun _ _ _ h => h) (Or.inl ⟨by rfl, fun w hSw => ?_⟩) (by assumption) ?_
 rotate_left 1
 ·(try dsimp only at hSw); go_simp; try with_reducible rfl
 try simp only [Act.put, List.setIfInBounds_toArray, List.set_cons_zero, List.set_cons_succ]
 refine wpAnyH_take (i := 1) (v := ?_) rfl (by kernel_rfl) (by kernel_rfl) (by kernel_rfl) (fun _ _ _ h => h) (Or.inl ⟨by rfl, fun w hSw => ?_⟩) (by assumption) ?_
 rotate_left 1
 ·(try dsimp only at hSw); go_simp; try with_reducible rfl
 try simp only [Act.put, List.setIfInBounds_toArray, List.set_cons_zero, List.set_cons_succ]
 refine wpAnyH_take (i := 2) (v := ?_) rfl (by kernel_rfl) (by kernel_rfl) (by kernel_rfl) (fun _ _ _ h => h) (Or.inl ⟨by rfl, fun w hSw => ?_⟩) (by assumption) ?_
 rotate_left 1
 ·(try dsimp only at hSw); go_simp; try with_reducible rfl
 try simp only [Act.put, List.setIfInBounds_toArray, List.set_cons_zero, List.set_cons_succ]
 refine wpAnyH_take (i := 3) (v := ?_) rfl (by kernel_rfl) (by kernel_rfl) (by kernel_rfl) (fun _ _ _ h => h) (Or.inl ⟨by rfl, fun w hSw => ?_⟩) (by assumption) ?_
 rotate_left 1
 ·(try dsimp only at hSw); go_simp; try with_reducible rfl
 try simp only [Act.put, List.setIfInBounds_toArray, List.set_cons_zero, List.set_cons_succ]
 refine wpAnyH_take (i := 4) (v := ?_) rfl (by kernel_rfl) (by kernel_rfl) (by kernel_rfl) (fun _ _ _ h => h) (Or.inl ⟨by rfl, fun w hSw => ?_⟩) (by assumption) ?_
 rotate_left 1
 ·(try dsimp only at hSw)
  have q3 := (hN.below hSw hkb).c3
  rw [hA] at q3
  go_simp
  try with_reducible rfl
 try simp only [Act.put, List.setIfInBounds_toArray, List.set_cons_zero, List.set_cons_succ]
 refine wpAnyH_take (i := 5) (v := .pointer (some ⟨kb, off, none⟩)) rfl (by kernel_rfl) (by kernel_rfl) (by kernel_rfl) (fun _ _ _ h => h) (Or.inl ⟨by rfl, fun w hSw => ?_⟩) (by assumption) ?_
 ·(try dsimp only at hSw)
  go_simp
  intro hc
  rw [hc] at hl1
  exact absurd hl1 (by simp)
 try simp only [Act.put, List.setIfInBounds_toArray, List.set_cons_zero, List.set_cons_succ]
 refine wpAnyH_take (i := 6) (v := ?_) rfl (by kernel_rfl) (by kernel_rfl) (by kernel_rfl) (fun _ _ _ h => h) (Or.inl ⟨by rfl, fun w hSw => ?_⟩) (by assumption) ?_
 rotate_left 1
 ·(try dsimp only at hSw); go_simp; try with_reducible rfl
 try simp only [Act.put, List.setIfInBounds_toArray, List.set_cons_zero, List.set_cons_succ]
 refine wpAnyH_take (i := 7) (v := ?_) rfl (by kernel_rfl) (by kernel_rfl) (by kernel_rfl) (fun _ _ _ h => h) (Or.inl ⟨by rfl, fun w hSw => ?_⟩) (by assumption) ?_
 rotate_left 1
 ·(try dsimp only at hSw); go_simp; try with_reducible rfl
 try simp only [Act.put, List.setIfInBounds_toArray, List.set_cons_zero, List.set_cons_succ]
 refine wpAnyH_take (i := 8) (v := ?_) rfl (by kernel_rfl) (by kernel_rfl) (by kernel_rfl) (fun _ _ _ h => h) (Or.inl ⟨by rfl, fun w hSw => ?_⟩) (by assumption) ?_
 rotate_left 1
 ·(try dsimp only at hSw); go_simp; try with_reducible rfl
 try simp only [Act.put, List.setIfInBounds_toArray, List.set_cons_zero, List.set_cons_succ]
 refine wpAnyH_take (i := 9) (v := ?_) rfl (by kernel_rfl) (by kernel_rfl) (by kernel_rfl) (fun _ _ _ h => h) (Or.inl ⟨by rfl, fun w hSw => ?_⟩) (by assumption) ?_
 rotate_left 1
 ·(try dsimp only at hSw)
  have q3 := (hN.below hSw hkb).c3
  rw [hA] at q3
  go_simp
  try with_reducible rfl
 try simp only [Act.put, List.setIfInBounds_toArray, List.set_cons_zero, List.set_cons_succ]
 refine wpAnyH_take (i := 10) (v := .pointer (some ⟨kb, off + 7, none⟩)) rfl (by kernel_rfl) (by kernel_rfl) (by kernel_rfl) (fun _ _ _ h => h) (Or.inl ⟨by rfl, fun w hSw => ?_⟩) (by assumption) ?_
 ·(try dsimp only at hSw)
  go_simp
  intro hc
  omega
 try simp only [Act.put, List.setIfInBounds_toArray, List.set_cons_zero, List.set_cons_succ]
 refine wpAnyH_take (i := 11) (v := ?_) rfl (by kernel_rfl) (by kernel_rfl) (by kernel_rfl) (fun _ _ _ h => h) (Or.inl ⟨by rfl, fun w hSw => ?_⟩) (by assumption) ?_
 rotate_left 1
 ·(try dsimp only at hSw); go_simp; try with_reducible rfl
 try simp only [Act.put, List.setIfInBounds_toArray, List.set_cons_zero, List.set_cons_succ]
 refine wpAnyH_ready (rs := [12]) (by kernel_rfl) (by simp) ?_
 refine AllReadyH.cons rfl (fun K hK => ?_) AllReadyH.nil
 go_simp
 have hdr := (Below.refl b w).drew
 refine (load_stepP w.drew hp hE kb off y hy (hNy.below hdr hkb2) (hHy.below hdr) hkb2 hy1 hy2 z hz (hNz.below hdr hkb2) (hHz.below hdr) hz1 hz2 hlen (by omega)).mono ?_
 rintro e w2 ⟨rfl, hp2, hf2⟩
 have hf2 := hdr.trans hf2
 refine hK.out _ _ (hf2) (fun hHeld2 => ?_)
 clear hK K hHeld
 have hHeld := hHeld2
 clear hHeld2
 try simp only [Act.put, List.setIfInBounds_toArray, List.set_cons_zero, List.set_cons_succ]
 refine wpAnyH_done (by kernel_rfl) ?_ _
 go_wp2
 go_end0
 exact ⟨rfl, hp2, hf2⟩
end
end

/- The printer's expr at a call of a value (printed by gen/prth.py). -/
section
open Go.RowKit
set_option linter.unusedSimpArgs false
theorem LN.tail {S : Nat → Prop} {n : Nat} {w : World} {kb off c : Nat} {l : List Nd} (h : LN S (n + 1) w (some ⟨kb, off, none⟩) c l) (h1 : 1 ≤ l.length) : LN S (n + 1) w (some ⟨kb, off + 7, none⟩) (c - 1) (l.drop 1) := by
 obtain ⟨h2, h3, h4⟩ := h
 obtain ⟨b, o, hA, hb, hx⟩ := h4 (by omega)
 injection hA with hA
 injection hA with hA1 hA2
 subst hA1 hA2
 refine ⟨by rw [List.length_drop]; omega, by omega, fun _ => ⟨kb, off + 7, rfl, hb, fun k x hk => ?_⟩⟩
 rw [List.getElem?_drop] at hk
 have := hx (1 + k) x hk
 rw [show off + (1 + k) * 7 = off + 7 + k * 7 by omega] at this
 exact this
theorem lsB_drop {ex inFn : Bool} {l : List Nd} (h : lsB ex inFn l = true) (k : Nat) : lsB ex inFn (l.drop k) = true := by
 rw [← List.take_append_drop k l, lsB_app] at h
 simp only [Bool.and_eq_true] at h
 exact h.2
section
variable {n b : Nat} {bs : Bs} {k o : Nat} {x : Nd} {h : HdN} {lv : Nat} {inFn : Bool}
set_option maxRecDepth 20000 in
set_option maxHeartbeats 800000 in
theorem expr_k6 (w : World) (hN : NdAt w k o x h) (hH : NdH (upB b) (n + 1) w h x) (hkb : k < b) (hp : PrW b bs w) (hL : ListP (n + 1)) (hE : ExprP n) (kb off : Nat) (y : Nd) (hy : HdN) (hA : h.As = some ⟨kb, off, none⟩) (hl1 : 1 ≤ x.subs.length) (hNy : NdAt w kb off y hy) (hHy : NdH (upB b) n w hy y) (hkb2 : kb < b) (hy1 : isExprK y.kind = true) (hy2 : y.okB inFn = true) (hk : x.kind = 6) (ho : lsB true inFn x.subs = true) (hlen : bs.length + (parB [3, 4] y.kind (y.exprB lv) ++ callB [46] (exprsB (x.subs.drop 1) lv)).length ≤ 1000000000) (hlv : lv + (n + 1) ≤ 1000000) :
  Calls Tryz.prog 104 #[pat b, .pointer (some ⟨k, o, none⟩), .int .i64 lv] w (Prs b bs (parB [3, 4] y.kind (y.exprB lv) ++ callB [46] (exprsB (x.subs.drop 1) lv)) w) := by
 have hbd := hH.subs.bound
 have hl7 := hH.subs
 rw [hA] at hl7
 have hT := hl7.tail hl1
 clear hl7
 simp only [List.length_append] at hlen
 have c3 := hN.c3
 rw [hA] at c3
 have c0 := hN.c0
 rw [hk] at c0
 go_enter Tryz.func104, Tryz.ntmps104
 go_wp2_with fail
 have hB4 := (Below.refl b w).alloc (Nat.le_of_lt hp.lt) (.cells #[.int .u8 3, .int .u8 4] 42)
 refine (operand_stepP n hE b _ kb off y hy lv inFn [3, 4] (some ⟨w.heap.size, 0, none⟩) 2 _ (hNy.below hB4 hkb2) (hHy.below hB4) hkb2 hy1 hy2 (rd34 _) (hp.alloc _) (by omega) (by omega)).mono ?_
 rintro e w4 ⟨rfl, hp4, hf4⟩
 have hf4 := hB4.trans hf4
 have c3 := (hN.below hf4 hkb).c3
 rw [hA] at c3
 have HC : Hid (∀ A1 c1, LN (upB b) (n + 1) w A1 c1 (x.subs.drop 1) → Calls Tryz.prog 157 #[pat b, .string ⟨#[46]⟩, .slice A1 (x.subs.length - 1) c1, .int .i64 lv] w4 (Prs b _ (callB [46] (exprsB (x.subs.drop 1) lv)) w4)) := Lib.hid (fun A1 c1 hT => by
  have := call_stepP (n + 1) hL b _ ⟨#[46]⟩ [46] rfl A1 c1 (x.subs.drop 1) lv inFn w4 (hT.below hf4) (lsB_drop ho 1) hp4 (by simp only [List.length_append]; omega) hlv
  rw [List.length_drop] at this
  exact this)
 have HT := Lib.hid hT
 clear hT
 have HL0 : Hid (h.cs = 1 → x.subs.drop 1 = []) := Lib.hid (fun h => by have := hH.subs.bound; exact List.drop_eq_nil_of_le (by omega))
 clear hbd
 go_wp2_with fail
 ·have hc1 := h
  refine (HC.out _ _ ?_).mono ?_
  rotate_left 1
  ·rintro e w5 ⟨rfl, hp5, hf5⟩
   go_wp2
   go_end0
   exact ⟨rfl, by simpa only [List.append_assoc, List.cons_append, List.nil_append, List.drop_one] using hp5, hf4.trans hf5⟩
  ·rw [HL0.out hc1]
   exact LN.nil _ _ _ _ (by unfold maxLen; omega)
 ·refine (HC.out _ _ HT.out).mono ?_
  rintro e w5 ⟨rfl, hp5, hf5⟩
  go_wp2
  go_end0
  exact ⟨rfl, by simpa only [List.append_assoc, List.cons_append, List.nil_append, List.drop_one] using hp5, hf4.trans hf5⟩
end
end

/- The printer's expr at a number (printed by gen/prtj.py). -/
section
open Go.RowKit Go.Sort
set_option linter.unusedSimpArgs false
section
variable {n b : Nat} {bs : Bs} {k o : Nat} {x : Nd} {h : HdN} {lv : Nat} {inFn : Bool}
set_option maxRecDepth 20000 in
set_option maxHeartbeats 800000 in
theorem expr_k1 (w : World) (hN : NdAt w k o x h) (hH : NdH (upB b) (n + 1) w h x) (hkb : k < b) (hp : PrW b bs w) (htab : ∀ w', Below b w w' → Lib.TabIs Tryz.prog w' "internal/strconv.uint64pow10" .u64 Lib.pow10Tab) (hk : x.kind = 1) (hlen : bs.length + (Lib.itoa x.num).length ≤ 1000000000) :
  Calls Tryz.prog 104 #[pat b, .pointer (some ⟨k, o, none⟩), .int .i64 lv] w (Prs b bs (Lib.itoa x.num) w) := by
 have HK := Lib.hid hH.ok.2
 have HTab := Lib.hid htab
 clear htab
 have c0 := hN.c0
 rw [hk] at c0
 go_enter Tryz.func104, Tryz.ntmps104
 go_wp2_with fail
 refine wp_region_held_drew (S := fun w' => Below b w w') (by kernel_rfl) ((Below.refl _ _).drew) (fun hHeld => ?_)
 refine wpAnyH_take (i := 0) (v := ?_) rfl (by kernel_rfl) (by kernel_rfl) (by kernel_rfl) (fun _ _ _ h => h) (Or.inl ⟨by rfl, fun w hSw => ?_⟩) (by assumption) ?_
 rotate_left 1
 ·(try dsimp only at hSw); go_simp; try with_reducible rfl
 try simp only [Act.put, List.setIfInBounds_toArray, List.set_cons_zero, List.set_cons_succ]
 refine wpAnyH_take (i := 1) (v := ?_) rfl (by kernel_rfl) (by kernel_rfl) (by kernel_rfl) (fun _ _ _ h => h) (Or.inl ⟨by rfl, fun w hSw => ?_⟩) (by assumption) ?_
 rotate_left 1
 ·(try dsimp only at hSw); go_simp; try with_reducible rfl
 try simp only [Act.put, List.setIfInBounds_toArray, List.set_cons_zero, List.set_cons_succ]
 refine wpAnyH_take (i := 2) (v := ?_) rfl (by kernel_rfl) (by kernel_rfl) (by kernel_rfl) (fun _ _ _ h => h) (Or.inl ⟨by rfl, fun w hSw => ?_⟩) (by assumption) ?_
 rotate_left 1
 ·(try dsimp only at hSw); go_simp; try with_reducible rfl
 try simp only [Act.put, List.setIfInBounds_toArray, List.set_cons_zero, List.set_cons_succ]
 refine wpAnyH_take (i := 3) (v := ?_) rfl (by kernel_rfl) (by kernel_rfl) (by kernel_rfl) (fun _ _ _ h => h) (Or.inl ⟨by rfl, fun w hSw => ?_⟩) (by assumption) ?_
 rotate_left 1
 ·(try dsimp only at hSw); go_simp; try with_reducible rfl
 try simp only [Act.put, List.setIfInBounds_toArray, List.set_cons_zero, List.set_cons_succ]
 refine wpAnyH_take (i := 4) (v := ?_) rfl (by kernel_rfl) (by kernel_rfl) (by kernel_rfl) (fun _ _ _ h => h) (Or.inl ⟨by rfl, fun w hSw => ?_⟩) (by assumption) ?_
 rotate_left 1
 ·(try dsimp only at hSw); go_simp; try with_reducible rfl
 try simp only [Act.put, List.setIfInBounds_toArray, List.set_cons_zero, List.set_cons_succ]
 refine wpAnyH_take (i := 5) (v := ?_) rfl (by kernel_rfl) (by kernel_rfl) (by kernel_rfl) (fun _ _ _ h => h) (Or.inl ⟨by rfl, fun w hSw => ?_⟩) (by assumption) ?_
 rotate_left 1
 ·(try dsimp only at hSw); go_simp; try with_reducible rfl
 try simp only [Act.put, List.setIfInBounds_toArray, List.set_cons_zero, List.set_cons_succ]
 refine wpAnyH_take (i := 6) (v := ?_) rfl (by kernel_rfl) (by kernel_rfl) (by kernel_rfl) (fun _ _ _ h => h) (Or.inl ⟨by rfl, fun w hSw => ?_⟩) (by assumption) ?_
 rotate_left 1
 ·(try dsimp only at hSw)
  have q2 := (hN.below hSw hkb).c2
  go_simp
  try with_reducible rfl
 try simp only [Act.put, List.setIfInBounds_toArray, List.set_cons_zero, List.set_cons_succ]
 refine wpAnyH_ready (rs := [7]) (by kernel_rfl) (by simp) ?_
 refine AllReadyH.cons rfl (fun K hK => ?_) AllReadyH.nil
 go_simp
 have hdr := (Below.refl b w).drew
 refine (Tryz.strconv_FormatInt_10 x.num HK.out.1 HK.out.2 w.drew (HTab.out _ hdr)).mono ?_
 rintro e w1 ⟨rfl, k1, os, rfl⟩
 have hup : Below w.drew.heap.size w.drew (grow (w.drew.drewN k1) os) := Lib.below_grow _ _ (Nat.le_refl _) _ _
 generalize grow (w.drew.drewN k1) os = w1 at *
 have hp1 : PrW b bs w1 := PrW.up (w := w.drew) hp hup
 have hf1 : Below b w w1 := hdr.trans (hup.mono (Nat.le_of_lt hp.lt))
 refine hK.out _ _ (hf1) (fun hHeld2 => ?_)
 clear hK K hHeld
 have hHeld := hHeld2
 clear hHeld2
 try simp only [Act.put, List.setIfInBounds_toArray, List.set_cons_zero, List.set_cons_succ]
 refine wpAnyH_ready (rs := [8]) (by kernel_rfl) (by simp) ?_
 refine AllReadyH.cons rfl (fun K hK => ?_) AllReadyH.nil
 go_simp
 refine (pr_strE b bs (Lib.itoa x.num) _ _ hp1 rfl (by omega)).mono ?_
 rintro e w2 ⟨m, rfl, hp2, hf2⟩
 have hf2 := hf1.trans hf2
 refine hK.out _ _ (hf2) (fun hHeld2 => ?_)
 clear hK K hHeld
 have hHeld := hHeld2
 clear hHeld2
 try simp only [Act.put, List.setIfInBounds_toArray, List.set_cons_zero, List.set_cons_succ]
 refine wpAnyH_done (by kernel_rfl) ?_ _
 go_wp2
 go_end0
 exact ⟨rfl, hp2, hf2⟩
end
end

/- The printer's expr at a function (printed by gen/prtl.py). -/
section
open Go.RowKit
set_option linter.unusedSimpArgs false
section
variable {n b : Nat} {bs : Bs} {k o : Nat} {x : Nd} {h : HdN} {lv : Nat} {inFn : Bool}
set_option maxRecDepth 20000 in
set_option maxHeartbeats 800000 in
theorem expr_k10 (w : World) (hN : NdAt w k o x h) (hH : NdH (upB b) (n + 1) w h x) (hkb : k < b) (hp : PrW b bs w) (hS : StmtsP (n + 1)) (hk : x.kind = 10) (ho : lsB false inFn x.body = true) (hlen : bs.length + (([102, 110, 32, 40] ++ joinB x.params ++ [41, 32, 123, 10]) ++ stmtsB (lv + 1) (linesB x.body (lv + 1)) ++ indB lv ++ [125]).length ≤ 1000000000) (hlv : lv + 1 + (n + 1) ≤ 1000001) :
  Calls Tryz.prog 104 #[pat b, .pointer (some ⟨k, o, none⟩), .int .i64 lv] w (Prs b bs (([102, 110, 32, 40] ++ joinB x.params ++ [41, 32, 123, 10]) ++ stmtsB (lv + 1) (linesB x.body (lv + 1)) ++ indB lv ++ [125]) w) := by
 simp only [List.length_append, List.length_cons, List.length_nil] at hlen
 have c0 := hN.c0
 rw [hk] at c0
 go_enter Tryz.func104, Tryz.ntmps104
 go_wp2_with fail
 refine wp_region_held_drew (S := fun w' => Below b w w') (by kernel_rfl) ((Below.refl _ _).drew) (fun hHeld => ?_)
 refine wpAnyH_take (i := 0) (v := ?_) rfl (by kernel_rfl) (by kernel_rfl) (by kernel_rfl) (fun _ _ _ h => h) (Or.inl ⟨by rfl, fun w hSw => ?_⟩) (by assumption) ?_
 rotate_left 1
 ·(try dsimp only at hSw); go_simp; try with_reducible rfl
 try simp only [Act.put, List.setIfInBounds_toArray, List.set_cons_zero, List.set_cons_succ]
 refine wpAnyH_take (i := 1) (v := ?_) rfl (by kernel_rfl) (by kernel_rfl) (by kernel_rfl) (fun _ _ _ h => h) (Or.inl ⟨by rfl, fun w hSw => ?_⟩) (by assumption) ?_
 rotate_left 1
 ·(try dsimp only at hSw); go_simp; try with_reducible rfl
 try simp only [Act.put, List.setIfInBounds_toArray, List.set_cons_zero, List.set_cons_succ]
 refine wpAnyH_take (i := 2) (v := ?_) rfl (by kernel_rfl) (by kernel_rfl) (by kernel_rfl) (fun _ _ _ h => h) (Or.inl ⟨by rfl, fun w hSw => ?_⟩) (by assumption) ?_
 rotate_left 1
 ·(try dsimp only at hSw); go_simp; try with_reducible rfl
 try simp only [Act.put, List.setIfInBounds_toArray, List.set_cons_zero, List.set_cons_succ]
 refine wpAnyH_take (i := 3) (v := ?_) rfl (by kernel_rfl) (by kernel_rfl) (by kernel_rfl) (fun _ _ _ h => h) (Or.inl ⟨by rfl, fun w hSw => ?_⟩) (by assumption) ?_
 rotate_left 1
 ·(try dsimp only at hSw); go_simp; try with_reducible rfl
 try simp only [Act.put, List.setIfInBounds_toArray, List.set_cons_zero, List.set_cons_succ]
 refine wpAnyH_take (i := 4) (v := ?_) rfl (by kernel_rfl) (by kernel_rfl) (by kernel_rfl) (fun _ _ _ h => h) (Or.inl ⟨by rfl, fun w hSw => ?_⟩) (by assumption) ?_
 rotate_left 1
 ·(try dsimp only at hSw); go_simp; try with_reducible rfl
 try simp only [Act.put, List.setIfInBounds_toArray, List.set_cons_zero, List.set_cons_succ]
 refine wpAnyH_take (i := 5) (v := ?_) rfl (by kernel_rfl) (by kernel_rfl) (by kernel_rfl) (fun _ _ _ h => h) (Or.inl ⟨by rfl, fun w hSw => ?_⟩) (by assumption) ?_
 rotate_left 1
 ·(try dsimp only at hSw); go_simp; try with_reducible rfl
 try simp only [Act.put, List.setIfInBounds_toArray, List.set_cons_zero, List.set_cons_succ]
 refine wpAnyH_take (i := 6) (v := ?_) rfl (by kernel_rfl) (by kernel_rfl) (by kernel_rfl) (fun _ _ _ h => h) (Or.inl ⟨by rfl, fun w hSw => ?_⟩) (by assumption) ?_
 rotate_left 1
 ·(try dsimp only at hSw)
  have q4 := (hN.below hSw hkb).c4
  go_simp
  try with_reducible rfl
 try simp only [Act.put, List.setIfInBounds_toArray, List.set_cons_zero, List.set_cons_succ]
 refine wpAnyH_ready (rs := [7]) (by kernel_rfl) (by simp) ?_
 refine AllReadyH.cons rfl (fun K hK => ?_) AllReadyH.nil
 go_simp
 have hdr := (Below.refl b w).drew
 refine (join_ps (hH.params.below hdr) (by omega)).mono ?_
 rintro e w1 ⟨s, rfl, hs, hup⟩
 have hp1 : PrW b bs w1 := PrW.up (w := w.drew) hp hup
 have hf1 : Below b w w1 := hdr.trans (hup.mono (Nat.le_of_lt hp.lt))
 have hsz : s.size ≤ 1000000000 := by rw [← sb_len, hs]; omega
 have hs1 : 4 + s.size ≤ 9223372036854775807 := by omega
 have hs2 : 4 + s.size + 4 ≤ 9223372036854775807 := by omega
 have HT : Hid (sb (⟨#[102, 110, 32, 40]⟩ ++ s ++ ⟨#[41, 32, 123, 10]⟩) = ([102, 110, 32, 40] ++ joinB x.params ++ [41, 32, 123, 10])) := Lib.hid (by rw [sb_app, sb_app, hs]; rfl)
 clear hs
 refine hK.out _ _ (hf1) (fun hHeld2 => ?_)
 clear hK K hHeld
 have hHeld := hHeld2
 clear hHeld2
 try simp only [Act.put, List.setIfInBounds_toArray, List.set_cons_zero, List.set_cons_succ]
 refine wpAnyH_take (i := 8) (v := .string (⟨#[102, 110, 32, 40]⟩ ++ s)) rfl (by kernel_rfl) (by kernel_rfl) (by kernel_rfl) (fun _ _ _ h => h) (Or.inl ⟨by rfl, fun w hSw => ?_⟩) (by assumption) ?_
 ·(try dsimp only at hSw)
  go_simp
  first | done | rw [if_neg (by omega)]
 try simp only [Act.put, List.setIfInBounds_toArray, List.set_cons_zero, List.set_cons_succ]
 refine wpAnyH_take (i := 9) (v := .string (⟨#[102, 110, 32, 40]⟩ ++ s ++ ⟨#[41, 32, 123, 10]⟩)) rfl (by kernel_rfl) (by kernel_rfl) (by kernel_rfl) (fun _ _ _ h => h) (Or.inl ⟨by rfl, fun w hSw => ?_⟩) (by assumption) ?_
 ·(try dsimp only at hSw)
  go_simp
  first | done | rw [if_neg (by omega)]
 try simp only [Act.put, List.setIfInBounds_toArray, List.set_cons_zero, List.set_cons_succ]
 refine wpAnyH_ready (rs := [10]) (by kernel_rfl) (by simp) ?_
 refine AllReadyH.cons rfl (fun K hK => ?_) AllReadyH.nil
 go_simp
 refine (pr_strE b bs ([102, 110, 32, 40] ++ joinB x.params ++ [41, 32, 123, 10]) _ _ hp1 HT.out (by simp only [List.length_append, List.length_cons, List.length_nil]; omega)).mono ?_
 rintro e w2 ⟨m, rfl, hp2, hf2⟩
 have hf2 := hf1.trans hf2
 refine hK.out _ _ (hf2) (fun hHeld2 => ?_)
 clear hK K hHeld
 have hHeld := hHeld2
 clear hHeld2
 try simp only [Act.put, List.setIfInBounds_toArray, List.set_cons_zero, List.set_cons_succ]
 refine wpAnyH_done (by kernel_rfl) ?_ _
 have c5 := (hN.below hf2 hkb).c5
 have HS : Hid (Calls Tryz.prog 147 #[pat b, .slice h.Ab x.body.length h.cb, .int .i64 (lv + 1)] w2 (Prs b (bs ++ ([102, 110, 32, 40] ++ joinB x.params ++ [41, 32, 123, 10])) (stmtsB (lv + 1) (linesB x.body (lv + 1))) w2)) := Lib.hid (hS b _ h.Ab h.cb x.body (lv + 1) inFn w2 (hH.body.below hf2) ho hp2 (by simp only [List.length_append, List.length_cons, List.length_nil]; omega) hlv)
 clear hS
 go_wp2_with fail
 refine HS.out.mono ?_
 rintro e w3 ⟨rfl, hp3, hf3⟩
 go_wp2_with fail
 refine (indent_any b _ lv _ hp3 (by simp only [List.length_append, List.length_cons, List.length_nil]; omega)).mono ?_
 rintro e w4 ⟨rfl, hp4, hf4⟩
 go_wp2_with fail
 refine (pr_byte b _ 125 _ hp4 (by simp only [List.length_append, List.length_cons, List.length_nil]; omega)).mono ?_
 rintro e w5 ⟨rfl, hp5, hf5⟩
 go_wp2
 go_end0
 exact ⟨rfl, by simpa only [List.append_assoc, List.cons_append, List.nil_append] using hp5, ((hf2.trans hf3).trans hf4).trans hf5⟩
end
end

/- The printer's expr, all kinds: one depth. -/
section
open Go.RowKit
set_option linter.unusedSimpArgs false
theorem okB_rule {x : Nd} {inFn : Bool} (h : x.okB inFn = true) (r : Rul) (hr : ruleOf x.kind = some r) :
  fitsB r.text x.text = true ∧ r.least ≤ x.subs.length ∧ (x.subs.length : Int) ≤ r.most ∧ lsB true inFn x.subs = true ∧ lsB false (inFn || r.fn) x.body = true ∧ lsB false inFn x.els = true := by
 rw [Nd.okB_some hr] at h
 simp only [ownB, Bool.and_eq_true, decide_eq_true_eq] at h
 exact ⟨h.1.1.1.1.1.1, h.1.1.1.1.1.2, h.1.1.1.1.2, h.2.1, h.2.2.1, h.2.2.2⟩
theorem opnd_at {x y : Nd} {i lv : Nat} {ks : List Int} (hy : x.subs[i]? = some y) : opnd ks x (exprsB x.subs lv) i = parB ks y.kind (y.exprB lv) := by
 unfold opnd kindOf exprsB
 rw [hy, List.getD_eq_getElem?_getD, List.getElem?_map, hy]
 rfl
theorem exprsB_at {x y : Nd} {i lv : Nat} (hy : x.subs[i]? = some y) : (exprsB x.subs lv).getD i [] = y.exprB lv := by
 unfold exprsB
 rw [List.getD_eq_getElem?_getD, List.getElem?_map, hy]
 rfl
theorem LN.first {b n c : Nat} {w : World} {A : Option Addr} {l : List Nd} (hl : LN (upB b) (n + 1) w A c l) (h0 : 0 < l.length) : ∃ kb off, A = some ⟨kb, off, none⟩ ∧ kb < b ∧ ∀ i, i < l.length → ∃ y hy, l[i]? = some y ∧ NdAt w kb (off + i * 7) y hy ∧ NdH (upB b) n w hy y := by
 obtain ⟨kb, off, hA, hb, hx⟩ := hl.2.2 h0
 refine ⟨kb, off, hA, Nat.lt_of_not_le hb, fun i hi => ?_⟩
 obtain ⟨h, h1, h2, h3, h4, h5, h6⟩ := hx i _ (List.getElem?_eq_getElem hi)
 exact ⟨_, h, List.getElem?_eq_getElem hi, h1, ⟨h2, h3, h4, h5, h6⟩⟩
theorem ls_at {l : List Nd} {i : Nat} {y : Nd} {inFn : Bool} (h : lsB true inFn l = true) (hy : l[i]? = some y) : isExprK y.kind = true ∧ y.okB inFn = true := lsB_mem (List.mem_of_getElem? hy) h
set_option maxHeartbeats 1600000 in
theorem expr_stepP (n : Nat) (hE : ExprP n) (hS : StmtP n) : ExprP (n + 1) := by
 intro b bs k o x h lv inFn w hN hH hkb hx ho hp hlen hlv
 have hL := list_stepP n hE
 have hSt := statements_stepP n hS
 have hk : 1 ≤ x.kind ∧ x.kind ≤ 13 := by simpa [isExprK] using hx
 have hc : x.kind = 1 ∨ x.kind = 2 ∨ x.kind = 3 ∨ x.kind = 4 ∨ x.kind = 5 ∨ x.kind = 6 ∨ x.kind = 7 ∨ x.kind = 8 ∨ x.kind = 9 ∨ x.kind = 10 ∨ x.kind = 11 ∨ x.kind = 12 ∨ x.kind = 13 := by omega
 rw [exprB_eq] at hlen ⊢
 rcases hc with hk | hk | hk | hk | hk | hk | hk | hk | hk | hk | hk | hk | hk
 ·have e : exprF x (exprsB x.subs lv) (linesB x.body (lv + 1)) lv = Lib.itoa x.num := by unfold exprF; rw [hk]; rfl
  rw [e] at hlen ⊢
  exact expr_k1 w hN hH hkb hp (fun w' hb => (hp.2.below hb).is) hk hlen
 ·have e : exprF x (exprsB x.subs lv) (linesB x.body (lv + 1)) lv = sb x.text := by unfold exprF; rw [hk]; rfl
  rw [e] at hlen ⊢
  exact expr_k2 w hN hH hkb hp hk hlen
 ·obtain ⟨_, h1, h2, h3, _, _⟩ := okB_rule ho ⟨2, 1, 1, false, false, false⟩ (by rw [hk]; rfl)
  have h1 : 1 ≤ x.subs.length := by have h1 : (1 : Int) ≤ x.subs.length := h1; omega
  obtain ⟨kb, off, hA, hkb2, hi⟩ := hH.subs.first (by omega)
  obtain ⟨y, hy, hy0, hNy, hHy⟩ := hi 0 (by omega)
  have e : exprF x (exprsB x.subs lv) (linesB x.body (lv + 1)) lv = sb x.text ++ opnd [4] x (exprsB x.subs lv) 0 := by unfold exprF; rw [hk]; rfl
  rw [e, opnd_at hy0] at hlen ⊢
  exact expr_k3 w hN hH hkb hp hE kb off y hy hA h1 (by simpa using hNy) hHy hkb2 (ls_at h3 hy0).1 (ls_at h3 hy0).2 hk hlen hlv
 ·obtain ⟨_, h1, h2, h3, _, _⟩ := okB_rule ho ⟨3, 2, 2, false, false, false⟩ (by rw [hk]; rfl)
  have h1 : 2 ≤ x.subs.length := by have h1 : (2 : Int) ≤ x.subs.length := h1; omega
  obtain ⟨kb, off, hA, hkb2, hi⟩ := hH.subs.first (by omega)
  obtain ⟨y, hy, hy0, hNy, hHy⟩ := hi 0 (by omega)
  obtain ⟨z, hz, hz0, hNz, hHz⟩ := hi 1 (by omega)
  have e : exprF x (exprsB x.subs lv) (linesB x.body (lv + 1)) lv = opnd [4] x (exprsB x.subs lv) 0 ++ ([32] ++ sb x.text ++ [32]) ++ opnd [4] x (exprsB x.subs lv) 1 := by unfold exprF; rw [hk]; rfl
  rw [e, opnd_at hy0, opnd_at hz0] at hlen ⊢
  exact expr_k4 w hN hH hkb hp hE kb off y hy hA (by omega) (by simpa using hNy) hHy hkb2 (ls_at h3 hy0).1 (ls_at h3 hy0).2 z hz h1 (by simpa using hNz) hHz (ls_at h3 hz0).1 (ls_at h3 hz0).2 hk hlen hlv
 ·obtain ⟨_, h1, h2, h3, _, _⟩ := okB_rule ho ⟨1, 0, 8, false, false, false⟩ (by rw [hk]; rfl)
  have e : exprF x (exprsB x.subs lv) (linesB x.body (lv + 1)) lv = callB (sb x.text) (exprsB x.subs lv) := by unfold exprF; rw [hk]; rfl
  rw [e] at hlen ⊢
  exact expr_k5 w hN hH hkb hp hL hk h3 hlen hlv
 ·obtain ⟨_, h1, h2, h3, _, _⟩ := okB_rule ho ⟨0, 1, 9, false, false, false⟩ (by rw [hk]; rfl)
  have h1 : 1 ≤ x.subs.length := by have h1 : (1 : Int) ≤ x.subs.length := h1; omega
  obtain ⟨kb, off, hA, hkb2, hi⟩ := hH.subs.first (by omega)
  obtain ⟨y, hy, hy0, hNy, hHy⟩ := hi 0 (by omega)
  have e : exprF x (exprsB x.subs lv) (linesB x.body (lv + 1)) lv = opnd [3, 4] x (exprsB x.subs lv) 0 ++ callB [46] (exprsB (x.subs.drop 1) lv) := by unfold exprF exprsB; rw [hk, List.map_drop]; rfl
  rw [e, opnd_at hy0] at hlen ⊢
  exact expr_k6 w hN hH hkb hp hL hE kb off y hy hA h1 (by simpa using hNy) hHy hkb2 (ls_at h3 hy0).1 (ls_at h3 hy0).2 hk h3 hlen hlv
 ·obtain ⟨_, h1, h2, h3, _, _⟩ := okB_rule ho ⟨0, 1, 1, false, false, false⟩ (by rw [hk]; rfl)
  have e : exprF x (exprsB x.subs lv) (linesB x.body (lv + 1)) lv = callB [110, 101, 119] (exprsB x.subs lv) := by unfold exprF; rw [hk]; rfl
  rw [e] at hlen ⊢
  exact expr_k7 w hN hH hkb hp hL hk h3 hlen hlv
 ·obtain ⟨_, h1, h2, h3, _, _⟩ := okB_rule ho ⟨0, 2, 2, false, false, false⟩ (by rw [hk]; rfl)
  have h1 : 2 ≤ x.subs.length := by have h1 : (2 : Int) ≤ x.subs.length := h1; omega
  obtain ⟨kb, off, hA, hkb2, hi⟩ := hH.subs.first (by omega)
  obtain ⟨y, hy, hy0, hNy, hHy⟩ := hi 0 (by omega)
  obtain ⟨z, hz, hz0, hNz, hHz⟩ := hi 1 (by omega)
  have e : exprF x (exprsB x.subs lv) (linesB x.body (lv + 1)) lv = opnd [3, 4] x (exprsB x.subs lv) 0 ++ [91] ++ (exprsB x.subs lv).getD 1 [] ++ [93] := by unfold exprF; rw [hk]; rfl
  rw [e, opnd_at hy0, exprsB_at hz0] at hlen ⊢
  exact expr_k8 w hN hH hkb hp hE kb off y hy hA (by omega) (by simpa using hNy) hHy hkb2 (ls_at h3 hy0).1 (ls_at h3 hy0).2 z hz h1 (by simpa using hNz) hHz (ls_at h3 hz0).1 (ls_at h3 hz0).2 hk hlen hlv
 ·obtain ⟨_, h1, h2, h3, _, _⟩ := okB_rule ho ⟨0, 1, 1, false, false, false⟩ (by rw [hk]; rfl)
  have e : exprF x (exprsB x.subs lv) (linesB x.body (lv + 1)) lv = callB [108, 101, 110] (exprsB x.subs lv) := by unfold exprF; rw [hk]; rfl
  rw [e] at hlen ⊢
  exact expr_k9 w hN hH hkb hp hL hk h3 hlen hlv
 ·obtain ⟨_, _, _, _, h3, _⟩ := okB_rule ho ⟨0, 0, 0, true, false, true⟩ (by rw [hk]; rfl)
  have e : exprF x (exprsB x.subs lv) (linesB x.body (lv + 1)) lv = ([102, 110, 32, 40] ++ joinB x.params ++ [41, 32, 123, 10]) ++ stmtsB (lv + 1) (linesB x.body (lv + 1)) ++ indB lv ++ [125] := by unfold exprF; rw [hk]; rfl
  rw [e] at hlen ⊢
  exact expr_k10 w hN hH hkb hp hSt hk h3 hlen (by omega)
 ·have e : exprF x (exprsB x.subs lv) (linesB x.body (lv + 1)) lv = [105, 110, 112, 117, 116] := by unfold exprF; rw [hk]; rfl
  rw [e] at hlen ⊢
  exact expr_k11 w hN hH hkb hp hk hlen
 ·have e : exprF x (exprsB x.subs lv) (linesB x.body (lv + 1)) lv = [99, 108, 111, 99, 107] := by unfold exprF; rw [hk]; rfl
  rw [e] at hlen ⊢
  exact expr_k12 w hN hH hkb hp hk hlen
 ·obtain ⟨_, h1, h2, h3, _, _⟩ := okB_rule ho ⟨1, 0, 8, false, false, false⟩ (by rw [hk]; rfl)
  have e : exprF x (exprsB x.subs lv) (linesB x.body (lv + 1)) lv = callB ([115, 112, 97, 119, 110, 32] ++ sb x.text) (exprsB x.subs lv) := by unfold exprF; rw [hk]; rfl
  rw [e] at hlen ⊢
  exact expr_k13 w hN hH hkb hp hL hk h3 hlen hlv
end

/- The printer's statement, kind by kind (printed by gen/prto.py). -/
section
open Go.RowKit
set_option linter.unusedSimpArgs false
theorem plain_some {b k o : Nat} {bs t : Bs} {x : Nd} {h : HdN} {w : World} (hN : NdAt w k o x h) (hs : x.text.size ≤ 1000000000) (ht : plainF x.kind x.text = some t) (hp : PrW b bs w) :
  Calls Tryz.prog 218 #[.pointer (some ⟨k, o, none⟩)] w fun e w' => ∃ s, e = .returned (.tuple #[.string s, .bool true]) ∧ sb s = t ∧ PrW b bs w' ∧ Below b w w' := by
 refine (plain_any k o x h w hN hs).mono ?_
 rintro e w' ⟨⟨n, rfl⟩, s, rfl, h1⟩
 rw [ht] at h1 ⊢
 exact ⟨s, rfl, h1, hp.drewN n, ⟨rfl, rfl, rfl, Nat.le_refl _, fun _ _ => rfl⟩⟩
theorem plain_none {b k o : Nat} {bs : Bs} {x : Nd} {h : HdN} {w : World} (hN : NdAt w k o x h) (hs : x.text.size ≤ 1000000000) (ht : plainF x.kind x.text = none) (hp : PrW b bs w) :
  Calls Tryz.prog 218 #[.pointer (some ⟨k, o, none⟩)] w fun e w' => ∃ s, e = .returned (.tuple #[.string s, .bool false]) ∧ PrW b bs w' ∧ Below b w w' := by
 refine (plain_any k o x h w hN hs).mono ?_
 rintro e w' ⟨⟨n, rfl⟩, s, rfl, h1⟩
 rw [ht]
 exact ⟨s, rfl, hp.drewN n, ⟨rfl, rfl, rfl, Nat.le_refl _, fun _ _ => rfl⟩⟩
section
variable {n b : Nat} {bs : Bs} {k o : Nat} {x : Nd} {h : HdN} {lv : Nat} {inFn : Bool}
set_option maxRecDepth 20000 in
set_option maxHeartbeats 1600000 in
theorem stmt_plain (w : World) (hN : NdAt w k o x h) (hH : NdH (upB b) (n + 1) w h x) (hkb : k < b) (hp : PrW b bs w) (hs : x.text.size ≤ 1000000000) (hE : ExprP n) (kb off : Nat) (y : Nd) (hy : HdN) (hA : h.As = some ⟨kb, off, none⟩) (hl1 : 1 ≤ x.subs.length) (hNy : NdAt w kb off y hy) (hHy : NdH (upB b) n w hy y) (hkb2 : kb < b) (hy1 : isExprK y.kind = true) (hy2 : y.okB inFn = true) (t : Bs) (ht : plainF x.kind x.text = some t) (hlen : bs.length + (t ++ y.exprB lv ++ [59]).length ≤ 1000000000) (hlv : lv + (n + 1) ≤ 1000000) :
  Calls Tryz.prog 194 #[pat b, .pointer (some ⟨k, o, none⟩), .int .i64 lv] w (Prs b bs (t ++ y.exprB lv ++ [59]) w) := by
 simp only [List.length_append, List.length_cons, List.length_nil] at hlen
 have HP := Lib.hid (plain_some hN hs ht hp)
 go_enter Tryz.func194, Tryz.ntmps194
 go_wp2_with fail
 refine HP.out.mono ?_
 rintro e w1 ⟨s, rfl, hsb, hp1, hf1⟩
 go_wp2_with fail
 refine (pr_strE b bs t s _ hp1 hsb (by omega)).mono ?_
 rintro e w2 ⟨m2, rfl, hp2, hg2⟩
 have hf2 := hf1.trans hg2
 have c3 := (hN.below hf2 hkb).c3
 rw [hA] at c3
 go_wp2_with fail
 refine (hE b _ kb off y hy lv inFn _ (hNy.below hf2 hkb2) (hHy.below hf2) hkb2 hy1 hy2 hp2 (by simp only [List.length_append, List.length_cons, List.length_nil]; omega) (by omega)).mono ?_
 rintro e w3 ⟨rfl, hp3, hg3⟩
 have hf3 := hf2.trans hg3
 go_wp2_with fail
 refine (pr_byte b _ 59 _ hp3 (by simp only [List.length_append, List.length_cons, List.length_nil]; omega)).mono ?_
 rintro e w4 ⟨rfl, hp4, hg4⟩
 have hf4 := hf3.trans hg4
 go_wp2
 go_end0
 exact ⟨rfl, by simpa only [List.append_assoc, List.cons_append, List.nil_append] using hp4, hf4⟩
set_option maxRecDepth 20000 in
set_option maxHeartbeats 1600000 in
theorem stmt_k16 (w : World) (hN : NdAt w k o x h) (hH : NdH (upB b) (n + 1) w h x) (hkb : k < b) (hp : PrW b bs w) (hs : x.text.size ≤ 1000000000) (hE : ExprP n) (kb off : Nat) (y : Nd) (hy : HdN) (hA : h.As = some ⟨kb, off, none⟩) (hl1 : 1 ≤ x.subs.length) (hNy : NdAt w kb off y hy) (hHy : NdH (upB b) n w hy y) (hkb2 : kb < b) (hy1 : isExprK y.kind = true) (hy2 : y.okB inFn = true) (z : Nd) (hz : HdN) (hl2 : 2 ≤ x.subs.length) (hNz : NdAt w kb (off + 7) z hz) (hHz : NdH (upB b) n w hz z) (hz1 : isExprK z.kind = true) (hz2 : z.okB inFn = true) (u : Nd) (hu : HdN) (hl3 : 3 ≤ x.subs.length) (hNu : NdAt w kb (off + 14) u hu) (hHu : NdH (upB b) n w hu u) (hu1 : isExprK u.kind = true) (hu2 : u.okB inFn = true) (hk : x.kind = 16) (hlen : bs.length + ((parB [3, 4] y.kind (y.exprB lv) ++ [91] ++ z.exprB lv ++ [93]) ++ [32, 61, 32] ++ u.exprB lv ++ [59]).length ≤ 1000000000) (hlv : lv + (n + 1) ≤ 1000000) :
  Calls Tryz.prog 194 #[pat b, .pointer (some ⟨k, o, none⟩), .int .i64 lv] w (Prs b bs ((parB [3, 4] y.kind (y.exprB lv) ++ [91] ++ z.exprB lv ++ [93]) ++ [32, 61, 32] ++ u.exprB lv ++ [59]) w) := by
 have hbd := hH.subs.bound
 simp only [List.length_append, List.length_cons, List.length_nil] at hlen
 have HP := Lib.hid (plain_none hN hs (show plainF x.kind x.text = none by rw [hk]; rfl) hp)
 go_enter Tryz.func194, Tryz.ntmps194
 go_wp2_with fail
 refine HP.out.mono ?_
 rintro e w1 ⟨s, rfl, hp1, hf1⟩
 have c0 := (hN.below hf1 hkb).c0
 rw [hk] at c0
 go_wp2_with fail
 refine wp_region_held_drew (S := fun w' => Below b w1 w') (by kernel_rfl) ((Below.refl _ _).drew) (fun hHeld => ?_)
 refine wpAnyH_take (i := 0) (v := ?_) rfl (by kernel_rfl) (by kernel_rfl) (by kernel_rfl) (fun _ _ _ h => h) (Or.inl ⟨by rfl, fun w hSw => ?_⟩) (by assumption) ?_
 rotate_left 1
 ·(try dsimp only at hSw); go_simp; try with_reducible rfl
 try simp only [Act.put, List.setIfInBounds_toArray, List.set_cons_zero, List.set_cons_succ]
 refine wpAnyH_take (i := 1) (v := ?_) rfl (by kernel_rfl) (by kernel_rfl) (by kernel_rfl) (fun _ _ _ h => h) (Or.inl ⟨by rfl, fun w hSw => ?_⟩) (by assumption) ?_
 rotate_left 1
 ·(try dsimp only at hSw); go_simp; try with_reducible rfl
 try simp only [Act.put, List.setIfInBounds_toArray, List.set_cons_zero, List.set_cons_succ]
 refine wpAnyH_take (i := 2) (v := ?_) rfl (by kernel_rfl) (by kernel_rfl) (by kernel_rfl) (fun _ _ _ h => h) (Or.inl ⟨by rfl, fun w hSw => ?_⟩) (by assumption) ?_
 rotate_left 1
 ·(try dsimp only at hSw); go_simp; try with_reducible rfl
 try simp only [Act.put, List.setIfInBounds_toArray, List.set_cons_zero, List.set_cons_succ]
 refine wpAnyH_take (i := 3) (v := ?_) rfl (by kernel_rfl) (by kernel_rfl) (by kernel_rfl) (fun _ _ _ h => h) (Or.inl ⟨by rfl, fun w hSw => ?_⟩) (by assumption) ?_
 rotate_left 1
 ·(try dsimp only at hSw); go_simp; try with_reducible rfl
 try simp only [Act.put, List.setIfInBounds_toArray, List.set_cons_zero, List.set_cons_succ]
 refine wpAnyH_take (i := 4) (v := ?_) rfl (by kernel_rfl) (by kernel_rfl) (by kernel_rfl) (fun _ _ _ h => h) (Or.inl ⟨by rfl, fun w hSw => ?_⟩) (by assumption) ?_
 rotate_left 1
 ·(try dsimp only at hSw)
  have q3 := (hN.below (hf1.trans hSw) hkb).c3
  rw [hA] at q3
  go_simp
  try with_reducible rfl
 try simp only [Act.put, List.setIfInBounds_toArray, List.set_cons_zero, List.set_cons_succ]
 refine wpAnyH_take (i := 5) (v := .pointer (some ⟨kb, off, none⟩)) rfl (by kernel_rfl) (by kernel_rfl) (by kernel_rfl) (fun _ _ _ h => h) (Or.inl ⟨by rfl, fun w hSw => ?_⟩) (by assumption) ?_
 ·(try dsimp only at hSw)
  go_simp
  intro hc
  rw [hc] at hl1
  exact absurd hl1 (by simp)
 try simp only [Act.put, List.setIfInBounds_toArray, List.set_cons_zero, List.set_cons_succ]
 refine wpAnyH_take (i := 6) (v := ?_) rfl (by kernel_rfl) (by kernel_rfl) (by kernel_rfl) (fun _ _ _ h => h) (Or.inl ⟨by rfl, fun w hSw => ?_⟩) (by assumption) ?_
 rotate_left 1
 ·(try dsimp only at hSw); go_simp; try with_reducible rfl
 try simp only [Act.put, List.setIfInBounds_toArray, List.set_cons_zero, List.set_cons_succ]
 refine wpAnyH_take (i := 7) (v := ?_) rfl (by kernel_rfl) (by kernel_rfl) (by kernel_rfl) (fun _ _ _ h => h) (Or.inl ⟨by rfl, fun w hSw => ?_⟩) (by assumption) ?_
 rotate_left 1
 ·(try dsimp only at hSw); go_simp; try with_reducible rfl
 try simp only [Act.put, List.setIfInBounds_toArray, List.set_cons_zero, List.set_cons_succ]
 refine wpAnyH_take (i := 8) (v := ?_) rfl (by kernel_rfl) (by kernel_rfl) (by kernel_rfl) (fun _ _ _ h => h) (Or.inl ⟨by rfl, fun w hSw => ?_⟩) (by assumption) ?_
 rotate_left 1
 ·(try dsimp only at hSw); go_simp; try with_reducible rfl
 try simp only [Act.put, List.setIfInBounds_toArray, List.set_cons_zero, List.set_cons_succ]
 refine wpAnyH_take (i := 9) (v := ?_) rfl (by kernel_rfl) (by kernel_rfl) (by kernel_rfl) (fun _ _ _ h => h) (Or.inl ⟨by rfl, fun w hSw => ?_⟩) (by assumption) ?_
 rotate_left 1
 ·(try dsimp only at hSw)
  have q3 := (hN.below (hf1.trans hSw) hkb).c3
  rw [hA] at q3
  go_simp
  try with_reducible rfl
 try simp only [Act.put, List.setIfInBounds_toArray, List.set_cons_zero, List.set_cons_succ]
 refine wpAnyH_take (i := 10) (v := .pointer (some ⟨kb, off + 7, none⟩)) rfl (by kernel_rfl) (by kernel_rfl) (by kernel_rfl) (fun _ _ _ h => h) (Or.inl ⟨by rfl, fun w hSw => ?_⟩) (by assumption) ?_
 ·(try dsimp only at hSw)
  go_simp
  intro hc
  omega
 try simp only [Act.put, List.setIfInBounds_toArray, List.set_cons_zero, List.set_cons_succ]
 refine wpAnyH_take (i := 11) (v := ?_) rfl (by kernel_rfl) (by kernel_rfl) (by kernel_rfl) (fun _ _ _ h => h) (Or.inl ⟨by rfl, fun w hSw => ?_⟩) (by assumption) ?_
 rotate_left 1
 ·(try dsimp only at hSw); go_simp; try with_reducible rfl
 try simp only [Act.put, List.setIfInBounds_toArray, List.set_cons_zero, List.set_cons_succ]
 refine wpAnyH_ready (rs := [12]) (by kernel_rfl) (by simp) ?_
 refine AllReadyH.cons rfl (fun K hK => ?_) AllReadyH.nil
 go_simp
 have hdr := hf1.trans ((Below.refl b w1).drew)
 refine (load_stepP w1.drew hp1 hE kb off y hy (hNy.below hdr hkb2) (hHy.below hdr) hkb2 hy1 hy2 z hz (hNz.below hdr hkb2) (hHz.below hdr) hz1 hz2 (by simp only [List.length_append, List.length_cons, List.length_nil]; omega) (by omega)).mono ?_
 rintro e w2 ⟨rfl, hp2, hg2⟩
 refine hK.out _ _ ((Below.refl b w1).drew.trans hg2) (fun hHeld2 => ?_)
 clear hK K hHeld
 have hHeld := hHeld2
 clear hHeld2
 try simp only [Act.put, List.setIfInBounds_toArray, List.set_cons_zero, List.set_cons_succ]
 refine wpAnyH_done (by kernel_rfl) ?_ _
 have hf2 := hdr.trans hg2
 go_wp2_with fail
 refine (pr_strE b _ [32, 61, 32] _ _ hp2 rfl (by simp only [List.length_append, List.length_cons, List.length_nil]; omega)).mono ?_
 rintro e w3 ⟨m3, rfl, hp3, hg3⟩
 have hf3 := hf2.trans hg3
 have c3 := (hN.below hf3 hkb).c3
 rw [hA] at c3
 go_wp2_with fail
 refine (hE b _ kb (off + 14) u hu lv inFn _ (hNu.below hf3 hkb2) (hHu.below hf3) hkb2 hu1 hu2 hp3 (by simp only [List.length_append, List.length_cons, List.length_nil]; omega) (by omega)).mono ?_
 rintro e w4 ⟨rfl, hp4, hg4⟩
 have hf4 := hf3.trans hg4
 go_wp2_with fail
 refine (pr_byte b _ 59 _ hp4 (by simp only [List.length_append, List.length_cons, List.length_nil]; omega)).mono ?_
 rintro e w5 ⟨rfl, hp5, hg5⟩
 have hf5 := hf4.trans hg5
 go_wp2
 go_end0
 exact ⟨rfl, by simpa only [List.append_assoc, List.cons_append, List.nil_append] using hp5, hf5⟩
set_option maxRecDepth 20000 in
set_option maxHeartbeats 1600000 in
theorem stmt_k18 (w : World) (hN : NdAt w k o x h) (hH : NdH (upB b) (n + 1) w h x) (hkb : k < b) (hp : PrW b bs w) (hs : x.text.size ≤ 1000000000) (hE : ExprP n) (hSt : StmtsP (n + 1)) (kb off : Nat) (y : Nd) (hy : HdN) (hA : h.As = some ⟨kb, off, none⟩) (hl1 : 1 ≤ x.subs.length) (hNy : NdAt w kb off y hy) (hHy : NdH (upB b) n w hy y) (hkb2 : kb < b) (hy1 : isExprK y.kind = true) (hy2 : y.okB inFn = true) (hk : x.kind = 18) (hob : lsB false inFn x.body = true) (hoe : lsB false inFn x.els = true) (hlen : bs.length + ([119, 104, 105, 108, 101, 32] ++ y.exprB lv ++ (blockB lv (linesB x.body (lv + 1)) [125])).length ≤ 1000000000) (hlv : lv + (n + 1) ≤ 1000000) :
  Calls Tryz.prog 194 #[pat b, .pointer (some ⟨k, o, none⟩), .int .i64 lv] w (Prs b bs ([119, 104, 105, 108, 101, 32] ++ y.exprB lv ++ (blockB lv (linesB x.body (lv + 1)) [125])) w) := by
 simp only [List.length_append, List.length_cons, List.length_nil] at hlen
 have HP := Lib.hid (plain_none hN hs (show plainF x.kind x.text = none by rw [hk]; rfl) hp)
 go_enter Tryz.func194, Tryz.ntmps194
 go_wp2_with fail
 refine HP.out.mono ?_
 rintro e w1 ⟨s, rfl, hp1, hf1⟩
 have c0 := (hN.below hf1 hkb).c0
 rw [hk] at c0
 go_wp2_with fail
 refine (pr_strE b _ [119, 104, 105, 108, 101, 32] _ _ hp1 rfl (by simp only [List.length_append, List.length_cons, List.length_nil]; omega)).mono ?_
 rintro e w2 ⟨m2, rfl, hp2, hg2⟩
 have hf2 := hf1.trans hg2
 have c3 := (hN.below hf2 hkb).c3
 rw [hA] at c3
 go_wp2_with fail
 refine (hE b _ kb off y hy lv inFn _ (hNy.below hf2 hkb2) (hHy.below hf2) hkb2 hy1 hy2 hp2 (by simp only [List.length_append, List.length_cons, List.length_nil]; omega) (by omega)).mono ?_
 rintro e w3 ⟨rfl, hp3, hg3⟩
 have hf3 := hf2.trans hg3
 have c5 := (hN.below hf3 hkb).c5
 have HB4 := Lib.hid (block_stepP (n + 1) hSt b _ h.Ab h.cb x.body lv ⟨#[125]⟩ inFn _ (hH.body.below hf3) hob hp3 (by show _ + (blockB lv (linesB x.body (lv + 1)) [125]).length ≤ _; simp only [List.length_append, List.length_cons, List.length_nil]; omega) (by omega))
 have hp3 := hp3
 go_wp2_with fail
 refine HB4.out.mono ?_
 rintro e w4 ⟨rfl, hp4, hg4⟩
 have hp4 : PrW b (_ ++ blockB lv (linesB x.body (lv + 1)) [125]) w4 := hp4
 have hf4 := hf3.trans hg4
 go_wp2
 go_end0
 exact ⟨rfl, by simpa only [List.append_assoc, List.cons_append, List.nil_append] using hp4, hf4⟩
set_option maxRecDepth 20000 in
set_option maxHeartbeats 1600000 in
theorem stmt_k17a (w : World) (hN : NdAt w k o x h) (hH : NdH (upB b) (n + 1) w h x) (hkb : k < b) (hp : PrW b bs w) (hs : x.text.size ≤ 1000000000) (hE : ExprP n) (hSt : StmtsP (n + 1)) (kb off : Nat) (y : Nd) (hy : HdN) (hA : h.As = some ⟨kb, off, none⟩) (hl1 : 1 ≤ x.subs.length) (hNy : NdAt w kb off y hy) (hHy : NdH (upB b) n w hy y) (hkb2 : kb < b) (hy1 : isExprK y.kind = true) (hy2 : y.okB inFn = true) (hk : x.kind = 17) (hob : lsB false inFn x.body = true) (hoe : lsB false inFn x.els = true) (h0 : x.els.length = 0) (hlen : bs.length + ([105, 102, 32] ++ y.exprB lv ++ (blockB lv (linesB x.body (lv + 1)) [125])).length ≤ 1000000000) (hlv : lv + (n + 1) ≤ 1000000) :
  Calls Tryz.prog 194 #[pat b, .pointer (some ⟨k, o, none⟩), .int .i64 lv] w (Prs b bs ([105, 102, 32] ++ y.exprB lv ++ (blockB lv (linesB x.body (lv + 1)) [125])) w) := by
 simp only [List.length_append, List.length_cons, List.length_nil] at hlen
 have HP := Lib.hid (plain_none hN hs (show plainF x.kind x.text = none by rw [hk]; rfl) hp)
 go_enter Tryz.func194, Tryz.ntmps194
 go_wp2_with fail
 refine HP.out.mono ?_
 rintro e w1 ⟨s, rfl, hp1, hf1⟩
 have c0 := (hN.below hf1 hkb).c0
 rw [hk] at c0
 go_wp2_with fail
 refine (pr_strE b _ [105, 102, 32] _ _ hp1 rfl (by simp only [List.length_append, List.length_cons, List.length_nil]; omega)).mono ?_
 rintro e w2 ⟨m2, rfl, hp2, hg2⟩
 have hf2 := hf1.trans hg2
 have c3 := (hN.below hf2 hkb).c3
 rw [hA] at c3
 go_wp2_with fail
 refine (hE b _ kb off y hy lv inFn _ (hNy.below hf2 hkb2) (hHy.below hf2) hkb2 hy1 hy2 hp2 (by simp only [List.length_append, List.length_cons, List.length_nil]; omega) (by omega)).mono ?_
 rintro e w3 ⟨rfl, hp3, hg3⟩
 have hf3 := hf2.trans hg3
 have c5 := (hN.below hf3 hkb).c5
 have HB4 := Lib.hid (block_stepP (n + 1) hSt b _ h.Ab h.cb x.body lv ⟨#[125]⟩ inFn _ (hH.body.below hf3) hob hp3 (by show _ + (blockB lv (linesB x.body (lv + 1)) [125]).length ≤ _; simp only [List.length_append, List.length_cons, List.length_nil]; omega) (by omega))
 have hp3 := hp3
 go_wp2_with fail
 refine HB4.out.mono ?_
 rintro e w4 ⟨rfl, hp4, hg4⟩
 have hp4 : PrW b (_ ++ blockB lv (linesB x.body (lv + 1)) [125]) w4 := hp4
 have hf4 := hf3.trans hg4
 have c6 := (hN.below hf4 hkb).c6
 rw [h0] at c6
 go_wp2
 go_end0
 exact ⟨rfl, by simpa only [List.append_assoc, List.cons_append, List.nil_append] using hp4, hf4⟩
set_option maxRecDepth 20000 in
set_option maxHeartbeats 1600000 in
theorem stmt_k17b (w : World) (hN : NdAt w k o x h) (hH : NdH (upB b) (n + 1) w h x) (hkb : k < b) (hp : PrW b bs w) (hs : x.text.size ≤ 1000000000) (hE : ExprP n) (hSt : StmtsP (n + 1)) (kb off : Nat) (y : Nd) (hy : HdN) (hA : h.As = some ⟨kb, off, none⟩) (hl1 : 1 ≤ x.subs.length) (hNy : NdAt w kb off y hy) (hHy : NdH (upB b) n w hy y) (hkb2 : kb < b) (hy1 : isExprK y.kind = true) (hy2 : y.okB inFn = true) (hk : x.kind = 17) (hob : lsB false inFn x.body = true) (hoe : lsB false inFn x.els = true) (h0 : 0 < x.els.length) (hlen : bs.length + ([105, 102, 32] ++ y.exprB lv ++ (blockB lv (linesB x.body (lv + 1)) [125]) ++ ([32, 101, 108, 115, 101] ++ (blockB lv (linesB x.els (lv + 1)) [125]))).length ≤ 1000000000) (hlv : lv + (n + 1) ≤ 1000000) :
  Calls Tryz.prog 194 #[pat b, .pointer (some ⟨k, o, none⟩), .int .i64 lv] w (Prs b bs ([105, 102, 32] ++ y.exprB lv ++ (blockB lv (linesB x.body (lv + 1)) [125]) ++ ([32, 101, 108, 115, 101] ++ (blockB lv (linesB x.els (lv + 1)) [125]))) w) := by
 simp only [List.length_append, List.length_cons, List.length_nil] at hlen
 have hel := hH.els.bound
 have HP := Lib.hid (plain_none hN hs (show plainF x.kind x.text = none by rw [hk]; rfl) hp)
 go_enter Tryz.func194, Tryz.ntmps194
 go_wp2_with fail
 refine HP.out.mono ?_
 rintro e w1 ⟨s, rfl, hp1, hf1⟩
 have c0 := (hN.below hf1 hkb).c0
 rw [hk] at c0
 go_wp2_with fail
 refine (pr_strE b _ [105, 102, 32] _ _ hp1 rfl (by simp only [List.length_append, List.length_cons, List.length_nil]; omega)).mono ?_
 rintro e w2 ⟨m2, rfl, hp2, hg2⟩
 have hf2 := hf1.trans hg2
 have c3 := (hN.below hf2 hkb).c3
 rw [hA] at c3
 go_wp2_with fail
 refine (hE b _ kb off y hy lv inFn _ (hNy.below hf2 hkb2) (hHy.below hf2) hkb2 hy1 hy2 hp2 (by simp only [List.length_append, List.length_cons, List.length_nil]; omega) (by omega)).mono ?_
 rintro e w3 ⟨rfl, hp3, hg3⟩
 have hf3 := hf2.trans hg3
 have c5 := (hN.below hf3 hkb).c5
 have HB4 := Lib.hid (block_stepP (n + 1) hSt b _ h.Ab h.cb x.body lv ⟨#[125]⟩ inFn _ (hH.body.below hf3) hob hp3 (by show _ + (blockB lv (linesB x.body (lv + 1)) [125]).length ≤ _; simp only [List.length_append, List.length_cons, List.length_nil]; omega) (by omega))
 have hp3 := hp3
 go_wp2_with fail
 refine HB4.out.mono ?_
 rintro e w4 ⟨rfl, hp4, hg4⟩
 have hp4 : PrW b (_ ++ blockB lv (linesB x.body (lv + 1)) [125]) w4 := hp4
 have hf4 := hf3.trans hg4
 have c6 := (hN.below hf4 hkb).c6
 go_wp2_with fail
 refine (pr_strE b _ [32, 101, 108, 115, 101] _ _ hp4 rfl (by simp only [List.length_append, List.length_cons, List.length_nil]; omega)).mono ?_
 rintro e w5 ⟨m5, rfl, hp5, hg5⟩
 have hf5 := hf4.trans hg5
 have c6 := (hN.below hf5 hkb).c6
 have HB6 := Lib.hid (block_stepP (n + 1) hSt b _ h.Ae h.ce x.els lv ⟨#[125]⟩ inFn _ (hH.els.below hf5) hoe hp5 (by show _ + (blockB lv (linesB x.els (lv + 1)) [125]).length ≤ _; simp only [List.length_append, List.length_cons, List.length_nil]; omega) (by omega))
 have hp5 := hp5
 go_wp2_with fail
 refine HB6.out.mono ?_
 rintro e w6 ⟨rfl, hp6, hg6⟩
 have hp6 : PrW b (_ ++ blockB lv (linesB x.els (lv + 1)) [125]) w6 := hp6
 have hf6 := hf5.trans hg6
 go_wp2
 go_end0
 exact ⟨rfl, by simpa only [List.append_assoc, List.cons_append, List.nil_append] using hp6, hf6⟩
end
end

/- The printer's statement, kind by kind (printed by gen/prto.py). -/
section
open Go.RowKit
set_option linter.unusedSimpArgs false
section
variable {n b : Nat} {bs : Bs} {k o : Nat} {x : Nd} {h : HdN} {lv : Nat} {inFn : Bool}
set_option maxRecDepth 20000 in
set_option maxHeartbeats 6400000 in
theorem stmt_k21 (w : World) (hN : NdAt w k o x h) (hH : NdH (upB b) (n + 1) w h x) (hkb : k < b) (hp : PrW b bs w) (hs : x.text.size ≤ 1000000000) (hSt : StmtsP (n + 1)) (hk : x.kind = 21) (hob : lsB false inFn x.body = true) (hoe : lsB false inFn x.els = true) (hlen : bs.length + ([116, 114, 121] ++ (blockB lv (linesB x.body (lv + 1)) ([125, 32, 99, 97, 116, 99, 104, 32] ++ sb x.text)) ++ (blockB lv (linesB x.els (lv + 1)) [125])).length ≤ 1000000000) (hlv : lv + (n + 1) ≤ 1000000) :
  Calls Tryz.prog 194 #[pat b, .pointer (some ⟨k, o, none⟩), .int .i64 lv] w (Prs b bs ([116, 114, 121] ++ (blockB lv (linesB x.body (lv + 1)) ([125, 32, 99, 97, 116, 99, 104, 32] ++ sb x.text)) ++ (blockB lv (linesB x.els (lv + 1)) [125])) w) := by
 simp only [List.length_append, List.length_cons, List.length_nil] at hlen
 have hs1 : 8 + x.text.size ≤ 9223372036854775807 := by omega
 have HT : Hid (sb (⟨#[125, 32, 99, 97, 116, 99, 104, 32]⟩ ++ x.text) = [125, 32, 99, 97, 116, 99, 104, 32] ++ sb x.text) := Lib.hid (by rw [sb_app]; rfl)
 have HP := Lib.hid (plain_none hN hs (show plainF x.kind x.text = none by rw [hk]; rfl) hp)
 go_enter Tryz.func194, Tryz.ntmps194
 go_wp2_with fail
 refine HP.out.mono ?_
 rintro e w1 ⟨s, rfl, hp1, hf1⟩
 have c0 := (hN.below hf1 hkb).c0
 rw [hk] at c0
 go_wp2_with fail
 refine (pr_strE b _ [116, 114, 121] _ _ hp1 rfl (by simp only [List.length_append, List.length_cons, List.length_nil]; omega)).mono ?_
 rintro e w2 ⟨m2, rfl, hp2, hg2⟩
 have hf2 := hf1.trans hg2
 have hdr := hf2.trans ((Below.refl b w2).drew)
 have hb1 : (bs ++ [116, 114, 121]).length + (blockB lv (linesB x.body (lv + 1)) (sb (⟨#[125, 32, 99, 97, 116, 99, 104, 32]⟩ ++ x.text))).length ≤ 1000000000 := by rw [HT.out, List.length_append]; simp only [List.length_cons, List.length_nil]; omega
 have hB1 := block_stepP (n + 1) hSt b (bs ++ [116, 114, 121]) h.Ab h.cb x.body lv (⟨#[125, 32, 99, 97, 116, 99, 104, 32]⟩ ++ x.text) inFn w2.drew (hH.body.below hdr) hob hp2 hb1 (by omega)
 rw [HT.out] at hB1
 have HB := Lib.hid hB1
 clear hB1 hb1
 go_wp2_with fail
 refine wp_region_held_drew (S := fun w' => Below b w2 w') (by kernel_rfl) ((Below.refl _ _).drew) (fun hHeld => ?_)
 refine wpAnyH_take (i := 0) (v := ?_) rfl (by kernel_rfl) (by kernel_rfl) (by kernel_rfl) (fun _ _ _ h => h) (Or.inl ⟨by rfl, fun w hSw => ?_⟩) (by assumption) ?_
 rotate_left 1
 ·(try dsimp only at hSw); go_simp; try with_reducible rfl
 try simp only [Act.put, List.setIfInBounds_toArray, List.set_cons_zero, List.set_cons_succ]
 refine wpAnyH_take (i := 1) (v := ?_) rfl (by kernel_rfl) (by kernel_rfl) (by kernel_rfl) (fun _ _ _ h => h) (Or.inl ⟨by rfl, fun w hSw => ?_⟩) (by assumption) ?_
 rotate_left 1
 ·(try dsimp only at hSw); go_simp; try with_reducible rfl
 try simp only [Act.put, List.setIfInBounds_toArray, List.set_cons_zero, List.set_cons_succ]
 refine wpAnyH_take (i := 2) (v := ?_) rfl (by kernel_rfl) (by kernel_rfl) (by kernel_rfl) (fun _ _ _ h => h) (Or.inl ⟨by rfl, fun w hSw => ?_⟩) (by assumption) ?_
 rotate_left 1
 ·(try dsimp only at hSw); go_simp; try with_reducible rfl
 try simp only [Act.put, List.setIfInBounds_toArray, List.set_cons_zero, List.set_cons_succ]
 refine wpAnyH_take (i := 3) (v := ?_) rfl (by kernel_rfl) (by kernel_rfl) (by kernel_rfl) (fun _ _ _ h => h) (Or.inl ⟨by rfl, fun w hSw => ?_⟩) (by assumption) ?_
 rotate_left 1
 ·(try dsimp only at hSw); go_simp; try with_reducible rfl
 try simp only [Act.put, List.setIfInBounds_toArray, List.set_cons_zero, List.set_cons_succ]
 refine wpAnyH_take (i := 4) (v := ?_) rfl (by kernel_rfl) (by kernel_rfl) (by kernel_rfl) (fun _ _ _ h => h) (Or.inl ⟨by rfl, fun w hSw => ?_⟩) (by assumption) ?_
 rotate_left 1
 ·(try dsimp only at hSw)
  have q5 := (hN.below (hf2.trans hSw) hkb).c5
  go_simp
  try with_reducible rfl
 try simp only [Act.put, List.setIfInBounds_toArray, List.set_cons_zero, List.set_cons_succ]
 refine wpAnyH_take (i := 5) (v := ?_) rfl (by kernel_rfl) (by kernel_rfl) (by kernel_rfl) (fun _ _ _ h => h) (Or.inl ⟨by rfl, fun w hSw => ?_⟩) (by assumption) ?_
 rotate_left 1
 ·(try dsimp only at hSw); go_simp; try with_reducible rfl
 try simp only [Act.put, List.setIfInBounds_toArray, List.set_cons_zero, List.set_cons_succ]
 refine wpAnyH_take (i := 6) (v := ?_) rfl (by kernel_rfl) (by kernel_rfl) (by kernel_rfl) (fun _ _ _ h => h) (Or.inl ⟨by rfl, fun w hSw => ?_⟩) (by assumption) ?_
 rotate_left 1
 ·(try dsimp only at hSw); go_simp; try with_reducible rfl
 try simp only [Act.put, List.setIfInBounds_toArray, List.set_cons_zero, List.set_cons_succ]
 refine wpAnyH_take (i := 7) (v := ?_) rfl (by kernel_rfl) (by kernel_rfl) (by kernel_rfl) (fun _ _ _ h => h) (Or.inl ⟨by rfl, fun w hSw => ?_⟩) (by assumption) ?_
 rotate_left 1
 ·(try dsimp only at hSw); go_simp; try with_reducible rfl
 try simp only [Act.put, List.setIfInBounds_toArray, List.set_cons_zero, List.set_cons_succ]
 refine wpAnyH_take (i := 8) (v := ?_) rfl (by kernel_rfl) (by kernel_rfl) (by kernel_rfl) (fun _ _ _ h => h) (Or.inl ⟨by rfl, fun w hSw => ?_⟩) (by assumption) ?_
 rotate_left 1
 ·(try dsimp only at hSw); go_simp; try with_reducible rfl
 try simp only [Act.put, List.setIfInBounds_toArray, List.set_cons_zero, List.set_cons_succ]
 refine wpAnyH_take (i := 9) (v := ?_) rfl (by kernel_rfl) (by kernel_rfl) (by kernel_rfl) (fun _ _ _ h => h) (Or.inl ⟨by rfl, fun w hSw => ?_⟩) (by assumption) ?_
 rotate_left 1
 ·(try dsimp only at hSw)
  have q1 := (hN.below (hf2.trans hSw) hkb).c1
  go_simp
  try with_reducible rfl
 try simp only [Act.put, List.setIfInBounds_toArray, List.set_cons_zero, List.set_cons_succ]
 refine wpAnyH_take (i := 10) (v := .string (⟨#[125, 32, 99, 97, 116, 99, 104, 32]⟩ ++ x.text)) rfl (by kernel_rfl) (by kernel_rfl) (by kernel_rfl) (fun _ _ _ h => h) (Or.inl ⟨by rfl, fun w hSw => ?_⟩) (by assumption) ?_
 ·(try dsimp only at hSw)
  go_simp
  first | done | rw [if_neg (by omega)]
 try simp only [Act.put, List.setIfInBounds_toArray, List.set_cons_zero, List.set_cons_succ]
 refine wpAnyH_ready (rs := [11]) (by kernel_rfl) (by simp) ?_
 refine AllReadyH.cons rfl (fun K hK => ?_) AllReadyH.nil
 go_simp
 refine HB.out.mono ?_
 rintro e w3 ⟨rfl, hp3, hg3⟩
 refine hK.out _ _ ((Below.refl b w2).drew.trans hg3) (fun hHeld2 => ?_)
 clear hK K hHeld
 have hHeld := hHeld2
 clear hHeld2
 try simp only [Act.put, List.setIfInBounds_toArray, List.set_cons_zero, List.set_cons_succ]
 refine wpAnyH_done (by kernel_rfl) ?_ _
 have hf3 := hdr.trans hg3
 have c6 := (hN.below hf3 hkb).c6
 have HB4 := Lib.hid (block_stepP (n + 1) hSt b _ h.Ae h.ce x.els lv ⟨#[125]⟩ inFn _ (hH.els.below hf3) hoe hp3 (by show _ + (blockB lv (linesB x.els (lv + 1)) [125]).length ≤ _; simp only [List.length_append, List.length_cons, List.length_nil]; omega) (by omega))
 have hp3 := hp3
 go_wp2_with fail
 refine HB4.out.mono ?_
 rintro e w4 ⟨rfl, hp4, hg4⟩
 have hp4 : PrW b (_ ++ blockB lv (linesB x.els (lv + 1)) [125]) w4 := hp4
 have hf4 := hf3.trans hg4
 go_wp2
 go_end0
 exact ⟨rfl, by simpa only [List.append_assoc, List.cons_append, List.nil_append] using hp4, hf4⟩
end
end

end Go.Proofs.YtchldahkcpbgcaaGreatDoor
