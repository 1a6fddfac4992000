/- Texts of this seat, one behind the other: Rules, ShpM, Fits. -/
import Derived.Test.YtchldahkcpbgcaaGreatDoorsk4
import Derived.Test.YtchldahkcpbgcaaGreatDoorsk7
namespace Go.Proofs.YtchldahkcpbgcaaGreatDoor
set_option linter.unusedVariables false

/- The table of kinds. -/
section
open Go.RowKit
set_option linter.unusedSimpArgs false
structure Rul where
 text : Int
 least : Int
 most : Int
 body : Bool
 other : Bool
 fn : Bool
abbrev rulCells (r : Rul) : Array Value := #[.int .i64 r.text, .int .i64 r.least, .int .i64 r.most, .bool r.body, .bool r.other, .bool r.fn]
abbrev encRul (r : Rul) : Value := .agg (rulCells r)
abbrev encK (k : Int) : Value := .int .u8 k
def rulL : List (Int × Rul) := [(1, ⟨0, 0, 0, false, false, false⟩), (11, ⟨0, 0, 0, false, false, false⟩), (12, ⟨0, 0, 0, false, false, false⟩), (2, ⟨1, 0, 0, false, false, false⟩), (3, ⟨2, 1, 1, false, false, false⟩), (4, ⟨3, 2, 2, false, false, false⟩), (5, ⟨1, 0, 8, false, false, false⟩), (13, ⟨1, 0, 8, false, false, false⟩), (6, ⟨0, 1, 9, false, false, false⟩), (7, ⟨0, 1, 1, false, false, false⟩), (9, ⟨0, 1, 1, false, false, false⟩), (8, ⟨0, 2, 2, false, false, false⟩), (10, ⟨0, 0, 0, true, false, true⟩), (14, ⟨1, 1, 1, false, false, false⟩), (15, ⟨1, 1, 1, false, false, false⟩), (16, ⟨0, 3, 3, false, false, false⟩), (17, ⟨0, 1, 1, true, true, false⟩), (18, ⟨0, 1, 1, true, false, false⟩), (21, ⟨1, 0, 0, true, true, false⟩), (19, ⟨0, 1, 1, false, false, false⟩), (20, ⟨0, 1, 1, false, false, false⟩), (22, ⟨0, 1, 1, false, false, false⟩), (23, ⟨0, 1, 1, false, false, false⟩), (24, ⟨0, 1, 1, false, false, false⟩), (25, ⟨0, 1, 1, false, false, false⟩), (26, ⟨0, 1, 1, false, false, false⟩), (27, ⟨0, 1, 1, false, false, false⟩)]
def ruleOf (k : Int) : Option Rul := rulL.lookup k
theorem keyK8 : KeyT Tryz.prog 42 (.int .u8) encK := keyInt Tryz.underlying42
def RetRules (w : World) (e : Ending) (w' : World) : Prop := ∃ b, e = .returned (.map (some b)) ∧ Fr [] w w' ∧ w.heap.size ≤ b ∧ MapAt w' b encK encRul rulL
set_option maxRecDepth 20000 in
set_option maxHeartbeats 3200000 in
theorem rules_any (w : World) : Calls Tryz.prog 114 #[] w (RetRules w) := by
 have hmm := @run_makeMap Tryz.prog
 obtain ⟨V, hV⟩ : ∃ V, V = w.alloc (.cells #[.int .i64 0, .int .i64 1, .int .i64 1, .bool false, .bool false, .bool false] 224) := ⟨_, rfl⟩
 have hfV : Fr [] w V := by rw [hV]; exact frx
 have hB0 : Blk V w.heap.size 224 #[.int .i64 0, .int .i64 1, .int .i64 1, .bool false, .bool false, .bool false] := by rw [hV]; exact Blk.new _ _ _ _ rfl
 have hz : V.heap.size = w.heap.size + 1 := by rw [hV]; simp
 have hm0 : MapAt (V.alloc (.map #[] 0)) (w.heap.size + 1) encK encRul ([] : List (Int × Rul)) := MapAt.new _ _ _ _ hz.symm
 have hF0 : Fr [w.heap.size + 1] V (V.alloc (.map #[] 0)) := (Fr.refl _ _).alloc _
 have HZ := Lib.hid hz
 clear hz
 have hsz : V.heap.size = w.heap.size + 1 := HZ.out
 have hfW : ∀ W, Fr [w.heap.size + 1] _ W → Fr [] w W := fun W h => hfV.trans2 h (fun x hx => .inr (by simp only [List.mem_singleton] at hx; omega))
 clear hsz
 subst hV
 have hB : ∀ W, Fr [w.heap.size + 1] _ W → Blk W w.heap.size 224 #[.int .i64 0, .int .i64 1, .int .i64 1, .bool false, .bool false, .bool false] := fun W h => hB0.fr h (by simp)
 obtain ⟨w1, r1, hm1, f1⟩ := run_store_new keyK8 Tryz.underlying149 hm0 1 ⟨0, 0, 0, false, false, false⟩ (by decide)
 have s1 : (Instr.mapUpdate 149 (.map (some (w.heap.size + 1))) (.int .u8 1) (.agg #[.int .i64 0, .int .i64 0, .int .i64 0, .bool false, .bool false, .bool false])).run Tryz.prog ((w.alloc (.cells #[.int .i64 0, .int .i64 1, .int .i64 1, .bool false, .bool false, .bool false] 224)).alloc (.map #[] 0)) = .ok () w1 := r1
 have hF1 := hF0.trans f1
 clear r1 f1
 obtain ⟨w2, r2, hm2, f2⟩ := run_store_new keyK8 Tryz.underlying149 hm1 11 ⟨0, 0, 0, false, false, false⟩ (by decide)
 have s2 : (Instr.mapUpdate 149 (.map (some (w.heap.size + 1))) (.int .u8 11) (.agg #[.int .i64 0, .int .i64 0, .int .i64 0, .bool false, .bool false, .bool false])).run Tryz.prog w1 = .ok () w2 := r2
 have hF2 := hF1.trans f2
 clear r2 f2 hm1
 obtain ⟨w3, r3, hm3, f3⟩ := run_store_new keyK8 Tryz.underlying149 hm2 12 ⟨0, 0, 0, false, false, false⟩ (by decide)
 have s3 : (Instr.mapUpdate 149 (.map (some (w.heap.size + 1))) (.int .u8 12) (.agg #[.int .i64 0, .int .i64 0, .int .i64 0, .bool false, .bool false, .bool false])).run Tryz.prog w2 = .ok () w3 := r3
 have hF3 := hF2.trans f3
 clear r3 f3 hm2
 obtain ⟨w4, r4, hm4, f4⟩ := run_store_new keyK8 Tryz.underlying149 hm3 2 ⟨1, 0, 0, false, false, false⟩ (by decide)
 have s4 : (Instr.mapUpdate 149 (.map (some (w.heap.size + 1))) (.int .u8 2) (.agg #[.int .i64 1, .int .i64 0, .int .i64 0, .bool false, .bool false, .bool false])).run Tryz.prog w3 = .ok () w4 := r4
 have hF4 := hF3.trans f4
 clear r4 f4 hm3
 obtain ⟨w5, r5, hm5, f5⟩ := run_store_new keyK8 Tryz.underlying149 hm4 3 ⟨2, 1, 1, false, false, false⟩ (by decide)
 have s5 : (Instr.mapUpdate 149 (.map (some (w.heap.size + 1))) (.int .u8 3) (.agg #[.int .i64 2, .int .i64 1, .int .i64 1, .bool false, .bool false, .bool false])).run Tryz.prog w4 = .ok () w5 := r5
 have hF5 := hF4.trans f5
 clear r5 f5 hm4
 obtain ⟨w6, r6, hm6, f6⟩ := run_store_new keyK8 Tryz.underlying149 hm5 4 ⟨3, 2, 2, false, false, false⟩ (by decide)
 have s6 : (Instr.mapUpdate 149 (.map (some (w.heap.size + 1))) (.int .u8 4) (.agg #[.int .i64 3, .int .i64 2, .int .i64 2, .bool false, .bool false, .bool false])).run Tryz.prog w5 = .ok () w6 := r6
 have hF6 := hF5.trans f6
 clear r6 f6 hm5
 obtain ⟨w7, r7, hm7, f7⟩ := run_store_new keyK8 Tryz.underlying149 hm6 5 ⟨1, 0, 8, false, false, false⟩ (by decide)
 have s7 : (Instr.mapUpdate 149 (.map (some (w.heap.size + 1))) (.int .u8 5) (.agg #[.int .i64 1, .int .i64 0, .int .i64 8, .bool false, .bool false, .bool false])).run Tryz.prog w6 = .ok () w7 := r7
 have hF7 := hF6.trans f7
 clear r7 f7 hm6
 obtain ⟨w8, r8, hm8, f8⟩ := run_store_new keyK8 Tryz.underlying149 hm7 13 ⟨1, 0, 8, false, false, false⟩ (by decide)
 have s8 : (Instr.mapUpdate 149 (.map (some (w.heap.size + 1))) (.int .u8 13) (.agg #[.int .i64 1, .int .i64 0, .int .i64 8, .bool false, .bool false, .bool false])).run Tryz.prog w7 = .ok () w8 := r8
 have hF8 := hF7.trans f8
 clear r8 f8 hm7
 obtain ⟨w9, r9, hm9, f9⟩ := run_store_new keyK8 Tryz.underlying149 hm8 6 ⟨0, 1, 9, false, false, false⟩ (by decide)
 have s9 : (Instr.mapUpdate 149 (.map (some (w.heap.size + 1))) (.int .u8 6) (.agg #[.int .i64 0, .int .i64 1, .int .i64 9, .bool false, .bool false, .bool false])).run Tryz.prog w8 = .ok () w9 := r9
 have hF9 := hF8.trans f9
 clear r9 f9 hm8
 have q9_0 := (hB _ hF9).cell 0 rfl
 have q9_1 := (hB _ hF9).cell 1 rfl
 have q9_2 := (hB _ hF9).cell 2 rfl
 have q9_3 := (hB _ hF9).cell 3 rfl
 have q9_4 := (hB _ hF9).cell 4 rfl
 have q9_5 := (hB _ hF9).cell 5 rfl
 obtain ⟨w10, r10, hm10, f10⟩ := run_store_new keyK8 Tryz.underlying149 hm9 7 ⟨0, 1, 1, false, false, false⟩ (by decide)
 have s10 : (Instr.mapUpdate 149 (.map (some (w.heap.size + 1))) (.int .u8 7) (.agg #[.int .i64 0, .int .i64 1, .int .i64 1, .bool false, .bool false, .bool false])).run Tryz.prog w9 = .ok () w10 := r10
 have hF10 := hF9.trans f10
 clear r10 f10 hm9
 have q10_0 := (hB _ hF10).cell 0 rfl
 have q10_1 := (hB _ hF10).cell 1 rfl
 have q10_2 := (hB _ hF10).cell 2 rfl
 have q10_3 := (hB _ hF10).cell 3 rfl
 have q10_4 := (hB _ hF10).cell 4 rfl
 have q10_5 := (hB _ hF10).cell 5 rfl
 obtain ⟨w11, r11, hm11, f11⟩ := run_store_new keyK8 Tryz.underlying149 hm10 9 ⟨0, 1, 1, false, false, false⟩ (by decide)
 have s11 : (Instr.mapUpdate 149 (.map (some (w.heap.size + 1))) (.int .u8 9) (.agg #[.int .i64 0, .int .i64 1, .int .i64 1, .bool false, .bool false, .bool false])).run Tryz.prog w10 = .ok () w11 := r11
 have hF11 := hF10.trans f11
 clear r11 f11 hm10
 obtain ⟨w12, r12, hm12, f12⟩ := run_store_new keyK8 Tryz.underlying149 hm11 8 ⟨0, 2, 2, false, false, false⟩ (by decide)
 have s12 : (Instr.mapUpdate 149 (.map (some (w.heap.size + 1))) (.int .u8 8) (.agg #[.int .i64 0, .int .i64 2, .int .i64 2, .bool false, .bool false, .bool false])).run Tryz.prog w11 = .ok () w12 := r12
 have hF12 := hF11.trans f12
 clear r12 f12 hm11
 obtain ⟨w13, r13, hm13, f13⟩ := run_store_new keyK8 Tryz.underlying149 hm12 10 ⟨0, 0, 0, true, false, true⟩ (by decide)
 have s13 : (Instr.mapUpdate 149 (.map (some (w.heap.size + 1))) (.int .u8 10) (.agg #[.int .i64 0, .int .i64 0, .int .i64 0, .bool true, .bool false, .bool true])).run Tryz.prog w12 = .ok () w13 := r13
 have hF13 := hF12.trans f13
 clear r13 f13 hm12
 obtain ⟨w14, r14, hm14, f14⟩ := run_store_new keyK8 Tryz.underlying149 hm13 14 ⟨1, 1, 1, false, false, false⟩ (by decide)
 have s14 : (Instr.mapUpdate 149 (.map (some (w.heap.size + 1))) (.int .u8 14) (.agg #[.int .i64 1, .int .i64 1, .int .i64 1, .bool false, .bool false, .bool false])).run Tryz.prog w13 = .ok () w14 := r14
 have hF14 := hF13.trans f14
 clear r14 f14 hm13
 obtain ⟨w15, r15, hm15, f15⟩ := run_store_new keyK8 Tryz.underlying149 hm14 15 ⟨1, 1, 1, false, false, false⟩ (by decide)
 have s15 : (Instr.mapUpdate 149 (.map (some (w.heap.size + 1))) (.int .u8 15) (.agg #[.int .i64 1, .int .i64 1, .int .i64 1, .bool false, .bool false, .bool false])).run Tryz.prog w14 = .ok () w15 := r15
 have hF15 := hF14.trans f15
 clear r15 f15 hm14
 obtain ⟨w16, r16, hm16, f16⟩ := run_store_new keyK8 Tryz.underlying149 hm15 16 ⟨0, 3, 3, false, false, false⟩ (by decide)
 have s16 : (Instr.mapUpdate 149 (.map (some (w.heap.size + 1))) (.int .u8 16) (.agg #[.int .i64 0, .int .i64 3, .int .i64 3, .bool false, .bool false, .bool false])).run Tryz.prog w15 = .ok () w16 := r16
 have hF16 := hF15.trans f16
 clear r16 f16 hm15
 obtain ⟨w17, r17, hm17, f17⟩ := run_store_new keyK8 Tryz.underlying149 hm16 17 ⟨0, 1, 1, true, true, false⟩ (by decide)
 have s17 : (Instr.mapUpdate 149 (.map (some (w.heap.size + 1))) (.int .u8 17) (.agg #[.int .i64 0, .int .i64 1, .int .i64 1, .bool true, .bool true, .bool false])).run Tryz.prog w16 = .ok () w17 := r17
 have hF17 := hF16.trans f17
 clear r17 f17 hm16
 obtain ⟨w18, r18, hm18, f18⟩ := run_store_new keyK8 Tryz.underlying149 hm17 18 ⟨0, 1, 1, true, false, false⟩ (by decide)
 have s18 : (Instr.mapUpdate 149 (.map (some (w.heap.size + 1))) (.int .u8 18) (.agg #[.int .i64 0, .int .i64 1, .int .i64 1, .bool true, .bool false, .bool false])).run Tryz.prog w17 = .ok () w18 := r18
 have hF18 := hF17.trans f18
 clear r18 f18 hm17
 obtain ⟨w19, r19, hm19, f19⟩ := run_store_new keyK8 Tryz.underlying149 hm18 21 ⟨1, 0, 0, true, true, false⟩ (by decide)
 have s19 : (Instr.mapUpdate 149 (.map (some (w.heap.size + 1))) (.int .u8 21) (.agg #[.int .i64 1, .int .i64 0, .int .i64 0, .bool true, .bool true, .bool false])).run Tryz.prog w18 = .ok () w19 := r19
 have hF19 := hF18.trans f19
 clear r19 f19 hm18
 have q19_0 := (hB _ hF19).cell 0 rfl
 have q19_1 := (hB _ hF19).cell 1 rfl
 have q19_2 := (hB _ hF19).cell 2 rfl
 have q19_3 := (hB _ hF19).cell 3 rfl
 have q19_4 := (hB _ hF19).cell 4 rfl
 have q19_5 := (hB _ hF19).cell 5 rfl
 obtain ⟨w20, r20, hm20, f20⟩ := run_store_new keyK8 Tryz.underlying149 hm19 19 ⟨0, 1, 1, false, false, false⟩ (by decide)
 have s20 : (Instr.mapUpdate 149 (.map (some (w.heap.size + 1))) (.int .u8 19) (.agg #[.int .i64 0, .int .i64 1, .int .i64 1, .bool false, .bool false, .bool false])).run Tryz.prog w19 = .ok () w20 := r20
 have hF20 := hF19.trans f20
 clear r20 f20 hm19
 have q20_0 := (hB _ hF20).cell 0 rfl
 have q20_1 := (hB _ hF20).cell 1 rfl
 have q20_2 := (hB _ hF20).cell 2 rfl
 have q20_3 := (hB _ hF20).cell 3 rfl
 have q20_4 := (hB _ hF20).cell 4 rfl
 have q20_5 := (hB _ hF20).cell 5 rfl
 obtain ⟨w21, r21, hm21, f21⟩ := run_store_new keyK8 Tryz.underlying149 hm20 20 ⟨0, 1, 1, false, false, false⟩ (by decide)
 have s21 : (Instr.mapUpdate 149 (.map (some (w.heap.size + 1))) (.int .u8 20) (.agg #[.int .i64 0, .int .i64 1, .int .i64 1, .bool false, .bool false, .bool false])).run Tryz.prog w20 = .ok () w21 := r21
 have hF21 := hF20.trans f21
 clear r21 f21 hm20
 have q21_0 := (hB _ hF21).cell 0 rfl
 have q21_1 := (hB _ hF21).cell 1 rfl
 have q21_2 := (hB _ hF21).cell 2 rfl
 have q21_3 := (hB _ hF21).cell 3 rfl
 have q21_4 := (hB _ hF21).cell 4 rfl
 have q21_5 := (hB _ hF21).cell 5 rfl
 obtain ⟨w22, r22, hm22, f22⟩ := run_store_new keyK8 Tryz.underlying149 hm21 22 ⟨0, 1, 1, false, false, false⟩ (by decide)
 have s22 : (Instr.mapUpdate 149 (.map (some (w.heap.size + 1))) (.int .u8 22) (.agg #[.int .i64 0, .int .i64 1, .int .i64 1, .bool false, .bool false, .bool false])).run Tryz.prog w21 = .ok () w22 := r22
 have hF22 := hF21.trans f22
 clear r22 f22 hm21
 have q22_0 := (hB _ hF22).cell 0 rfl
 have q22_1 := (hB _ hF22).cell 1 rfl
 have q22_2 := (hB _ hF22).cell 2 rfl
 have q22_3 := (hB _ hF22).cell 3 rfl
 have q22_4 := (hB _ hF22).cell 4 rfl
 have q22_5 := (hB _ hF22).cell 5 rfl
 obtain ⟨w23, r23, hm23, f23⟩ := run_store_new keyK8 Tryz.underlying149 hm22 23 ⟨0, 1, 1, false, false, false⟩ (by decide)
 have s23 : (Instr.mapUpdate 149 (.map (some (w.heap.size + 1))) (.int .u8 23) (.agg #[.int .i64 0, .int .i64 1, .int .i64 1, .bool false, .bool false, .bool false])).run Tryz.prog w22 = .ok () w23 := r23
 have hF23 := hF22.trans f23
 clear r23 f23 hm22
 have q23_0 := (hB _ hF23).cell 0 rfl
 have q23_1 := (hB _ hF23).cell 1 rfl
 have q23_2 := (hB _ hF23).cell 2 rfl
 have q23_3 := (hB _ hF23).cell 3 rfl
 have q23_4 := (hB _ hF23).cell 4 rfl
 have q23_5 := (hB _ hF23).cell 5 rfl
 obtain ⟨w24, r24, hm24, f24⟩ := run_store_new keyK8 Tryz.underlying149 hm23 24 ⟨0, 1, 1, false, false, false⟩ (by decide)
 have s24 : (Instr.mapUpdate 149 (.map (some (w.heap.size + 1))) (.int .u8 24) (.agg #[.int .i64 0, .int .i64 1, .int .i64 1, .bool false, .bool false, .bool false])).run Tryz.prog w23 = .ok () w24 := r24
 have hF24 := hF23.trans f24
 clear r24 f24 hm23
 have q24_0 := (hB _ hF24).cell 0 rfl
 have q24_1 := (hB _ hF24).cell 1 rfl
 have q24_2 := (hB _ hF24).cell 2 rfl
 have q24_3 := (hB _ hF24).cell 3 rfl
 have q24_4 := (hB _ hF24).cell 4 rfl
 have q24_5 := (hB _ hF24).cell 5 rfl
 obtain ⟨w25, r25, hm25, f25⟩ := run_store_new keyK8 Tryz.underlying149 hm24 25 ⟨0, 1, 1, false, false, false⟩ (by decide)
 have s25 : (Instr.mapUpdate 149 (.map (some (w.heap.size + 1))) (.int .u8 25) (.agg #[.int .i64 0, .int .i64 1, .int .i64 1, .bool false, .bool false, .bool false])).run Tryz.prog w24 = .ok () w25 := r25
 have hF25 := hF24.trans f25
 clear r25 f25 hm24
 have q25_0 := (hB _ hF25).cell 0 rfl
 have q25_1 := (hB _ hF25).cell 1 rfl
 have q25_2 := (hB _ hF25).cell 2 rfl
 have q25_3 := (hB _ hF25).cell 3 rfl
 have q25_4 := (hB _ hF25).cell 4 rfl
 have q25_5 := (hB _ hF25).cell 5 rfl
 obtain ⟨w26, r26, hm26, f26⟩ := run_store_new keyK8 Tryz.underlying149 hm25 26 ⟨0, 1, 1, false, false, false⟩ (by decide)
 have s26 : (Instr.mapUpdate 149 (.map (some (w.heap.size + 1))) (.int .u8 26) (.agg #[.int .i64 0, .int .i64 1, .int .i64 1, .bool false, .bool false, .bool false])).run Tryz.prog w25 = .ok () w26 := r26
 have hF26 := hF25.trans f26
 clear r26 f26 hm25
 have q26_0 := (hB _ hF26).cell 0 rfl
 have q26_1 := (hB _ hF26).cell 1 rfl
 have q26_2 := (hB _ hF26).cell 2 rfl
 have q26_3 := (hB _ hF26).cell 3 rfl
 have q26_4 := (hB _ hF26).cell 4 rfl
 have q26_5 := (hB _ hF26).cell 5 rfl
 obtain ⟨w27, r27, hm27, f27⟩ := run_store_new keyK8 Tryz.underlying149 hm26 27 ⟨0, 1, 1, false, false, false⟩ (by decide)
 have s27 : (Instr.mapUpdate 149 (.map (some (w.heap.size + 1))) (.int .u8 27) (.agg #[.int .i64 0, .int .i64 1, .int .i64 1, .bool false, .bool false, .bool false])).run Tryz.prog w26 = .ok () w27 := r27
 have hF27 := hF26.trans f27
 clear r27 f27 hm26
 clear hB
 go_enter Tryz.func114, Tryz.ntmps114
 go_wp2_with fail
 go_ret
 exact ⟨_, rfl, hfW _ hF27, Nat.le_succ _, hm27⟩
end

/- What the table asks of nodes: plain. -/
section
open Go.RowKit
set_option linter.unusedSimpArgs false
def isExprK (k : Int) : Bool := decide (1 ≤ k ∧ k ≤ 13)
def isStmtK (k : Int) : Bool := decide (14 ≤ k ∧ k ≤ 27)
def fitsB (t : Int) (s : ByteArray) : Bool := if t = 1 then nameOk s else if t = 2 then decide (s = bt [45]) || decide (s = bt [33]) else if t = 3 then inS opL s else decide (s.size = 0)
def paramsB (l : List ByteArray) : Bool := decide (l.length ≤ 8) && l.all nameOk
def kindB (ex : Bool) (k : Int) : Bool := if ex then isExprK k else isStmtK k
def ownB (r : Rul) (inFn : Bool) (k : Int) (t : ByteArray) (m : Int) (s : Nat) (p : List ByteArray) (b e : Nat) : Bool :=
 fitsB r.text t && decide (r.least ≤ s) && decide ((s : Int) ≤ r.most) && (decide (0 ≤ m) && (decide (m = 0) || decide (k = 1))) && ((r.fn || decide (p.length = 0)) && ((r.body || decide (b = 0)) && (r.other || decide (e = 0)))) && (!r.fn || (!inFn && paramsB p))
mutual
def Nd.okB (inFn : Bool) : Nd → Bool
  | .mk k t m s p b e => match ruleOf k with
    | none => false
    | some r => ownB r inFn k t m s.length p b.length e.length && (lsB true inFn s && (lsB false (inFn || r.fn) b && lsB false inFn e))
def lsB (ex inFn : Bool) : List Nd → Bool
  | [] => true
  | x :: l => kindB ex x.kind && x.okB inFn && lsB ex inFn l
end
theorem Nd.okB_none {x : Nd} {inFn : Bool} (h : ruleOf x.kind = none) : x.okB inFn = false := by
 cases x
 rw [Nd.okB]
 simp only [Nd.kind] at h
 rw [h]
theorem Nd.okB_some {x : Nd} {inFn : Bool} {r : Rul} (h : ruleOf x.kind = some r) : x.okB inFn = (ownB r inFn x.kind x.text x.num x.subs.length x.params x.body.length x.els.length && (lsB true inFn x.subs && (lsB false (inFn || r.fn) x.body && lsB false inFn x.els))) := by
 cases x
 rw [Nd.okB]
 simp only [Nd.kind] at h
 rw [h]
 rfl
theorem lsB_app (ex inFn : Bool) : ∀ l m : List Nd, lsB ex inFn (l ++ m) = (lsB ex inFn l && lsB ex inFn m)
 | [], m => by simp [lsB]
 | x :: l, m => by rw [List.cons_append, lsB, lsB, lsB_app ex inFn l m]; simp only [Bool.and_assoc]
theorem lsB_take {ex inFn : Bool} {l : List Nd} {k : Nat} {x : Nd} (h : Hid (l[k]? = some x)) (h1 : Hid (lsB ex inFn (l.take k) = true)) (h2 : kindB ex x.kind = true) (h3 : x.okB inFn = true) : Hid (lsB ex inFn (l.take (k + 1)) = true) := by
 show _ = _
 rw [take_at h, lsB_app, h1.out]
 simp [lsB, h2, h3]
theorem lsB_mem {ex inFn : Bool} {l : List Nd} {x : Nd} (hx : x ∈ l) (h : lsB ex inFn l = true) : kindB ex x.kind = true ∧ x.okB inFn = true := by
 obtain ⟨a, b, rfl⟩ := List.append_of_mem hx
 rw [lsB_app, lsB] at h
 simp only [Bool.and_eq_true] at h
 exact h.2.1
theorem lsB_false {ex inFn : Bool} {l : List Nd} {k : Nat} {x : Nd} (h : Hid (l[k]? = some x)) (h2 : kindB ex x.kind = false ∨ x.okB inFn = false) : lsB ex inFn l = false := by
  cases hb : lsB ex inFn l with
  | false => rfl
  | true =>
    obtain ⟨h3, h4⟩ := lsB_mem (List.mem_of_getElem? h.out) hb
    rcases h2 with h2 | h2
    · rw [h3] at h2; cases h2
    · rw [h4] at h2; cases h2
def fuB (f : Fu) : Bool := nameOk f.name && paramsB f.params && lsB false false f.body
def cntF (fs : List Fu) : Nat := (fs.map fun f => cntL f.body).sum
def depF (fs : List Fu) : Nat := fs.foldl (fun d f => max d (depL f.body)) 0
def shapeP (fs : List Fu) : Int := if 16 < fs.length then 3 else if 1024 < cntF fs ∨ 24 < depF fs then 3 else if fs.all fuB then 0 else 1
theorem cntF_take {fs : List Fu} {k : Nat} {f : Fu} (h : Hid (fs[k]? = some f)) : cntF (fs.take (k + 1)) = cntF (fs.take k) + cntL f.body := by
 unfold cntF
 rw [take_at h, List.map_append, List.sum_append]
 simp
theorem depF_take {fs : List Fu} {k : Nat} {f : Fu} (h : Hid (fs[k]? = some f)) : depF (fs.take (k + 1)) = max (depF (fs.take k)) (depL f.body) := by
 unfold depF
 rw [take_at h, List.foldl_append]
 rfl
theorem cntF_take_le (fs : List Fu) (k : Nat) : cntF (fs.take k) ≤ cntF fs := by
 unfold cntF
 conv => rhs; rw [← List.take_append_drop k fs, List.map_append, List.sum_append]
 omega
theorem depF_le : ∀ fs : List Fu, depF fs ≤ cntF fs := by
  intro fs
  suffices h : ∀ (fs : List Fu) (d n : Nat), d ≤ n → fs.foldl (fun d f => max d (depL f.body)) d ≤ n + (fs.map fun f => cntL f.body).sum by
    have := h fs 0 0 (Nat.le_refl _)
    rw [Nat.zero_add] at this
    exact this
  intro fs
  induction fs with
  | nil => intro d n h; simpa using h
  | cons f fs ih =>
    intro d n h
    have h1 := depL_le f.body
    have := ih (max d (depL f.body)) (n + cntL f.body) (by omega)
    simp only [List.foldl_cons, List.map_cons, List.sum_cons]
    omega
end

/- fits, params, isExpr, isStatement of the program. -/
section
open Go.RowKit
set_option linter.unusedSimpArgs false
theorem isExpr_any (k : Int) (w : World) : Calls Tryz.prog 102 #[.int .u8 k] w (RetQ w (.bool (isExprK k))) := by
 go_enter Tryz.func102, Tryz.ntmps102
 go_wp2 <;> go_ret <;> refine ⟨ret_bool ?_, 0, rfl⟩ <;> rw [Bool.eq_iff_iff] <;> simp [isExprK] <;> omega
theorem isStatement_any (k : Int) (w : World) : Calls Tryz.prog 108 #[.int .u8 k] w (RetQ w (.bool (isStmtK k))) := by
 go_enter Tryz.func108, Tryz.ntmps108
 go_wp2 <;> go_ret <;> refine ⟨ret_bool ?_, 0, rfl⟩ <;> rw [Bool.eq_iff_iff] <;> simp [isStmtK] <;> omega
theorem str_lit (s : ByteArray) (l : List UInt8) : (s.toList == l) = decide (s = bt l) := by
 rw [show l = (bt l).toList by unfold bt; rw [ByteArray.toList_mk], str_eq]
 congr 2
 unfold bt
 rw [ByteArray.toList_mk]
theorem str_iff {s : ByteArray} {l : List UInt8} : s.toList = l ↔ s = bt l := by
 have := str_lit s l
 constructor
 ·intro h
  rw [h] at this
  simpa using this.symm
 ·intro h
  rw [h]
  unfold bt
  rw [ByteArray.toList_mk]
set_option maxRecDepth 20000 in
theorem fits_any (t : Int) (s : ByteArray) (w : World) (hmax : s.size ≤ 9223372036854775807) : Calls Tryz.prog 204 #[.int .i64 t, .string s] w (RetV w (.bool (fitsB t s))) := by
 by_cases h1 : t = 1
 ·subst h1
  go_enter Tryz.func204, Tryz.ntmps204
  go_wp2_with fail
  refine (Name_any s _ hmax).mono ?_
  rintro e w1 ⟨rfl, hf⟩
  go_wp2
  go_ret
  exact ⟨rfl, hf⟩
 by_cases h2 : t = 2
 ·subst h2
  have H : fitsB 2 s = (decide (s = bt [45]) || decide (s = bt [33])) := rfl
  rw [H]
  go_enter Tryz.func204, Tryz.ntmps204
  go_wp2
  ·have h := str_iff.1 ‹s.toList = [45]›
   go_ret
   exact ⟨ret_bool (by simp [h]), Fr.refl _ _⟩
  ·have h := ‹¬ s.toList = [45]›
   rw [str_iff] at h
   go_ret
   exact ⟨ret_bool (by simp only [str_lit]), Fr.refl _ _⟩
 by_cases h3 : t = 3
 ·subst h3
  go_enter Tryz.func204, Tryz.ntmps204
  go_wp2_with fail
  refine (Operator_any s _).mono ?_
  rintro e w1 ⟨rfl, hf⟩
  go_wp2
  go_ret
  exact ⟨rfl, hf⟩
 ·have HF : fitsB t s = s.toList.isEmpty := by rw [str_empty]; unfold fitsB; rw [if_neg h1, if_neg h2, if_neg h3]
  rw [HF]
  clear HF
  have b1 : (t == 1) = false := by simpa using h1
  have b2 : (t == 2) = false := by simpa using h2
  have b3 : (t == 3) = false := by simpa using h3
  clear h1 h2 h3
  go_enter Tryz.func204, Tryz.ntmps204
  go_wp2
  go_ret
  exact ⟨rfl, Fr.refl _ _⟩
theorem params1_any (s : ByteArray) (w : World) (hmax : s.size ≤ 9223372036854775807) : Calls Tryz.prog 171 #[.string s] w (RetV w (.bool (!nameOk s))) := by
 go_enter Tryz.func171, Tryz.ntmps171
 go_wp2_with fail
 refine (Name_any s _ hmax).mono ?_
 rintro e w1 ⟨rfl, hf⟩
 go_wp2
 go_ret
 exact ⟨rfl, hf⟩
def badFrom : List ByteArray → Nat → Int
 | [], _ => -1
 | x :: l, k => if nameOk x then badFrom l (k + 1) else k
theorem bad_at {l : List ByteArray} {x : ByteArray} {k : Nat} {r : Int} (HE : Hid (badFrom (l.drop k) k = r)) (h : Hid (l[k]? = some x)) (hn : nameOk x = false) : r = k := by
 rw [← HE.out, drop_at h, badFrom, if_neg (by simp [hn])]
theorem bad_on {l : List ByteArray} {x : ByteArray} {k : Nat} {r : Int} (HE : Hid (badFrom (l.drop k) k = r)) (h : Hid (l[k]? = some x)) (hn : nameOk x = true) : Hid (badFrom (l.drop (k + 1)) (k + 1) = r) := by
 show _ = _
 rw [← HE.out, drop_at h, badFrom, if_pos hn]
theorem bad_end {l : List ByteArray} {k : Nat} {r : Int} (HE : Hid (badFrom (l.drop k) k = r)) (h : l.length ≤ k) : r = -1 := by
 rw [← HE.out, List.drop_of_length_le h]
 rfl
theorem bad_all : ∀ (l : List ByteArray) (k : Nat), decide (0 ≤ badFrom l k) = !l.all nameOk
  | [], k => by simp [badFrom]
  | x :: l, k => by
    rw [badFrom]
    cases h : nameOk x
    · simp [h]
    · simp [h, bad_all l (k + 1)]
theorem IndexFunc_any (A : Option Addr) (c : Nat) (l : List ByteArray) (w : World) (ha : Rd w .string A c l) (hs : ∀ s ∈ l, s.size ≤ 9223372036854775807) :
  Calls Tryz.prog 203 #[.slice A l.length c, .func (.func 171) #[] #[]] w (RetV w (.int .i64 (badFrom l 0))) := by
 have hb := ha.bound
 go_enter Tryz.func203, Tryz.ntmps203
 go_wp2
 go_loopw [8] (fun i wr => ∃ k : Nat, k ≤ l.length ∧ i = .int .i64 k ∧ Hid (badFrom (l.drop k) k = badFrom l 0) ∧ Fr [] w wr) (fun i _ => l.length - (intOf i).toNat)
 case atStart => exact ⟨0, Nat.zero_le _, rfl, rfl, Fr.refl _ _⟩
 case round =>
  obtain ⟨k, hk, rfl, HE, hf⟩ := hrel
  by_cases hlt : k < l.length
  ·obtain ⟨b1, o1, x, rfl, hx, hc1⟩ := ha.at_ hlt
   have hc1 := hf.cell hc1 (by simp)
   obtain ⟨b, hb⟩ : ∃ b, nameOk x = b := ⟨_, rfl⟩
   go_wp2_with fail
   refine (params1_any x _ (hs x (List.mem_of_getElem? hx.out))).mono ?_
   rw [hb]
   rintro e w1 ⟨rfl, hf1⟩
   have hf2 := hf.trans hf1
   cases b
   ·have HB := Lib.hid (bad_at HE hx hb)
    clear hb
    go_wp2
    go_ret
    exact ⟨ret_int HB.out.symm, hf2⟩
   ·have HB := bad_on HE hx hb
    clear hb
    go_wp2
    go_roundw
    case rel => exact ⟨k + 1, by omega, by go_num, HB, hf2⟩
    case measure => simp [intOf]; omega
  ·go_wp2
   go_ret
   exact ⟨ret_int (bad_end HE (by omega)).symm, hf⟩
theorem ContainsFunc_any (A : Option Addr) (c : Nat) (l : List ByteArray) (w : World) (ha : Rd w .string A c l) (hs : ∀ s ∈ l, s.size ≤ 9223372036854775807) :
  Calls Tryz.prog 170 #[.slice A l.length c, .func (.func 171) #[] #[]] w (RetV w (.bool (!l.all nameOk))) := by
 rw [← bad_all l 0]
 go_enter Tryz.func170, Tryz.ntmps170
 go_wp2_with fail
 refine (IndexFunc_any A c l _ ha hs).mono ?_
 rintro e w1 ⟨rfl, hf⟩
 go_wp2
 go_ret
 exact ⟨rfl, hf⟩
theorem params_any (A : Option Addr) (c : Nat) (l : List ByteArray) (w : World) (ha : Rd w .string A c l) (hs : ∀ s ∈ l, s.size ≤ 9223372036854775807) :
  Calls Tryz.prog 115 #[.slice A l.length c] w (RetV w (.bool (paramsB l))) := by
 have hb := ha.bound
 unfold paramsB
 by_cases h8 : l.length ≤ 8
 ·obtain ⟨b, hb⟩ : ∃ b, l.all nameOk = b := ⟨_, rfl⟩
  have hlt : decide ((l.length : Int) ≤ 8) = true := by simp; omega
  have HC := Lib.hid (fun w h => ContainsFunc_any A c l w h hs)
  go_enter Tryz.func115, Tryz.ntmps115
  go_wp2_with fail
  refine (HC.out _ ha).mono ?_
  rw [hb]
  rintro e w1 ⟨rfl, hf⟩
  cases b
  ·go_wp2
   go_ret
   exact ⟨ret_bool (by rw [hb]; simp), hf⟩
  ·go_wp2
   go_ret
   exact ⟨ret_bool (by rw [hb]; simp [h8]), hf⟩
 ·have h8' : ¬ ((l.length : Int) ≤ 8) := by omega
  have hlt : decide ((l.length : Int) ≤ 8) = false := by simpa using h8'
  go_enter Tryz.func115, Tryz.ntmps115
  go_wp2
  go_ret
  exact ⟨ret_bool (by simp [h8]), Fr.refl _ _⟩
end

end Go.Proofs.YtchldahkcpbgcaaGreatDoor
