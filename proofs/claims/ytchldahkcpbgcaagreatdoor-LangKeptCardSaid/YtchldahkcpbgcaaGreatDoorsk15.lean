/- Texts of this seat, one behind the other: ParV. -/
import Derived.Test.YtchldahkcpbgcaaGreatDoorsk2
import Derived.Test.YtchldahkcpbgcaaGreatDoorsk7
import Derived.Test.YtchldahkcpbgcaaGreatDoorProg
namespace Go.Proofs.YtchldahkcpbgcaaGreatDoor
set_option linter.unusedVariables false

/- simple (printed by gen/simple.py). -/
section
open Go.RowKit
set_option linter.unusedSimpArgs false
theorem keyBA {P : Program} {kt : TypeId} (hu : P.underlying kt = some .string) : KeyT P kt .string (fun s : ByteArray => Value.string s) :=
 ⟨hu, fun a b => by
  have : (a == b) = decide (a = b) := by
   rw [Bool.eq_iff_iff]
   show ByteArray.beq _ _ = true ↔ _
   simp only [ByteArray.beq, beq_iff_eq, decide_eq_true_eq]
   constructor
   ·intro h
    cases a
    cases b
    simp only at h
    rw [h]
   ·rintro rfl; rfl
  simp [Instr.sameNow, this], fun w em a => by
  rw [show (10000 : Nat) = 9999 + 1 from rfl, Instr.checkKey]
  simp [run_underlying hu]⟩
def simpL : List (ByteArray × Int) := [(⟨#[114, 101, 116, 117, 114, 110]⟩, 19), (⟨#[116, 104, 114, 111, 119]⟩, 20), (⟨#[106, 111, 105, 110]⟩, 22), (⟨#[108, 111, 99, 107]⟩, 23), (⟨#[117, 110, 108, 111, 99, 107]⟩, 24), (⟨#[112, 114, 105, 110, 116]⟩, 25), (⟨#[97, 115, 115, 101, 114, 116]⟩, 26)]
def simpOf (s : ByteArray) : Option Int := @List.lookup ByteArray Int instBEqOfDecidableEq s simpL
theorem keySt : KeyT Tryz.prog 9 .string (fun s : ByteArray => Value.string s) := keyBA Tryz.underlying9
set_option maxRecDepth 20000 in
set_option maxHeartbeats 3200000 in
theorem simple_any (s : ByteArray) (w : World) : Calls Tryz.prog 229 #[.string s] w (RetV w (.tuple #[.int .u8 ((simpOf s).getD 0), .bool (simpOf s).isSome])) := by
 have hmm := @run_makeMap Tryz.prog
 have hm0 : MapAt (w.alloc (.map #[] 0)) w.heap.size (fun s : ByteArray => Value.string s) (fun k : Int => Value.int .u8 k) ([] : List (ByteArray × Int)) := MapAt.new _ _ _ _ rfl
 have hF0 : Fr [] w (w.alloc (.map #[] 0)) := (Fr.refl _ _).alloc _
 have hfW : ∀ W, Fr [w.heap.size] (w.alloc (.map #[] 0)) W → Fr [] w W := fun W h => hF0.trans2 h (fun x hx => .inr (by simp only [List.mem_singleton] at hx; omega))
 have hF1 : Fr [w.heap.size] (w.alloc (.map #[] 0)) (w.alloc (.map #[] 0)) := Fr.refl _ _
 obtain ⟨w1, r1, hm1, f1⟩ := run_store_new keySt Tryz.underlying282 hm0 ⟨#[114, 101, 116, 117, 114, 110]⟩ 19 (by decide)
 have s1 : (Instr.mapUpdate 282 (.map (some w.heap.size)) (.string ⟨#[114, 101, 116, 117, 114, 110]⟩) (.int .u8 19)).run Tryz.prog (w.alloc (.map #[] 0)) = .ok () w1 := r1
 have hF2 := hF1.trans f1
 clear r1 f1 hm0
 obtain ⟨w2, r2, hm2, f2⟩ := run_store_new keySt Tryz.underlying282 hm1 ⟨#[116, 104, 114, 111, 119]⟩ 20 (by decide)
 have s2 : (Instr.mapUpdate 282 (.map (some w.heap.size)) (.string ⟨#[116, 104, 114, 111, 119]⟩) (.int .u8 20)).run Tryz.prog w1 = .ok () w2 := r2
 have hF3 := hF2.trans f2
 clear r2 f2 hm1
 obtain ⟨w3, r3, hm3, f3⟩ := run_store_new keySt Tryz.underlying282 hm2 ⟨#[106, 111, 105, 110]⟩ 22 (by decide)
 have s3 : (Instr.mapUpdate 282 (.map (some w.heap.size)) (.string ⟨#[106, 111, 105, 110]⟩) (.int .u8 22)).run Tryz.prog w2 = .ok () w3 := r3
 have hF4 := hF3.trans f3
 clear r3 f3 hm2
 obtain ⟨w4, r4, hm4, f4⟩ := run_store_new keySt Tryz.underlying282 hm3 ⟨#[108, 111, 99, 107]⟩ 23 (by decide)
 have s4 : (Instr.mapUpdate 282 (.map (some w.heap.size)) (.string ⟨#[108, 111, 99, 107]⟩) (.int .u8 23)).run Tryz.prog w3 = .ok () w4 := r4
 have hF5 := hF4.trans f4
 clear r4 f4 hm3
 obtain ⟨w5, r5, hm5, f5⟩ := run_store_new keySt Tryz.underlying282 hm4 ⟨#[117, 110, 108, 111, 99, 107]⟩ 24 (by decide)
 have s5 : (Instr.mapUpdate 282 (.map (some w.heap.size)) (.string ⟨#[117, 110, 108, 111, 99, 107]⟩) (.int .u8 24)).run Tryz.prog w4 = .ok () w5 := r5
 have hF6 := hF5.trans f5
 clear r5 f5 hm4
 obtain ⟨w6, r6, hm6, f6⟩ := run_store_new keySt Tryz.underlying282 hm5 ⟨#[112, 114, 105, 110, 116]⟩ 25 (by decide)
 have s6 : (Instr.mapUpdate 282 (.map (some w.heap.size)) (.string ⟨#[112, 114, 105, 110, 116]⟩) (.int .u8 25)).run Tryz.prog w5 = .ok () w6 := r6
 have hF7 := hF6.trans f6
 clear r6 f6 hm5
 obtain ⟨w7, r7, hm7, f7⟩ := run_store_new keySt Tryz.underlying282 hm6 ⟨#[97, 115, 115, 101, 114, 116]⟩ 26 (by decide)
 have s7 : (Instr.mapUpdate 282 (.map (some w.heap.size)) (.string ⟨#[97, 115, 115, 101, 114, 116]⟩) (.int .u8 26)).run Tryz.prog w6 = .ok () w7 := r7
 have hF8 := hF7.trans f7
 clear r7 f7 hm6
 have zr : (zeroValue 42).run Tryz.prog w7 = .ok (.int .u8 0) w7 := by rfl
 have hl : (Instr.lookup 282 (.map (some w.heap.size)) (.string s) true).run Tryz.prog w7 = .ok (.tuple #[.int .u8 ((simpOf s).getD 0), .bool (simpOf s).isSome]) w7 := run_lookup_at keySt Tryz.underlying282 (0 : Int) zr hm7 s
 have hF := hfW _ hF8
 clear hF0 hfW hF1 hF2 hF3 hF4 hF5 hF6 hF7 hF8 hm7 zr
 generalize (simpOf s).getD 0 = k at *
 generalize (simpOf s).isSome = ok at *
 go_enter Tryz.func229, Tryz.ntmps229
 go_wp2_with fail
 go_ret2
 exact ⟨rfl, hF⟩
end

end Go.Proofs.YtchldahkcpbgcaaGreatDoor
