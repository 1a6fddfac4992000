/- Texts of this seat, one behind the other: ScB, ScC. -/
import Derived.Test.YtchldahkcpbgcaaGreatDoorsk37
import Derived.Test.YtchldahkcpbgcaaGreatDoorsk27
import Derived.Deep.DeepCutAuto
namespace Go.Proofs.YtchldahkcpbgcaaGreatDoor
set_option linter.unusedVariables false

/- What a scope says of expressions and statements. -/
section
open Go.RowKit
set_option linter.unusedSimpArgs false
def StV (B b : Nat) (stv : Value) (st : Option Int) (cnt : Nat) (w : World) : Prop :=
 (st = none ∧ stv = .nilFunc) ∨ ∃ z g h, st = some z ∧ stv = .func (.func 130) #[] #[.pointer (some ⟨g, 0, none⟩), .pointer (some ⟨h, 0, none⟩)] ∧ B ≤ g ∧ g < b ∧ Blk w g 3 #[.int .i64 cnt] ∧ h < B ∧ w.cell? ⟨h, 0, none⟩ = some (.int .i64 z)
theorem StV.belowb {B b : Nat} {stv : Value} {st : Option Int} {cnt : Nat} {w w' : World} (h : StV B b stv st cnt w) (hf : Below b w w') (hB : B ≤ b) : StV B b stv st cnt w' := by
 rcases h with h | ⟨z, g, k, h1, h2, h3, h4, h5, h6, h7⟩
 ·exact .inl h
 ·exact .inr ⟨z, g, k, h1, h2, h3, h4, (hf.block g h4).trans h5, h6, by rw [hf.cell (Nat.lt_of_lt_of_le h6 hB)]; exact h7⟩
structure SWx (B b mb : Nat) (stv : Value) (st : Option Int) (c : Sc) (w : World) : Prop where
 le : B ≤ b
 sc : ScW b mb stv c w
 sv : StV B b stv st c.cnt w
def ScP (B b mb : Nat) (stv : Value) (st : Option Int) (c' : Sc) (w : World) (en : Ending) (w' : World) : Prop := en = .returned (.tuple #[]) ∧ SWx B b mb stv st c' w' ∧ Below B w w'
section
variable {B b mb : Nat} {stv : Value} {st : Option Int} {c c' : Sc} {w w' : World} {am : List (ByteArray × Int)}
theorem below_le {B b : Nat} (h : Below b w w') (hb : B ≤ b) : Below B w w' := ⟨h.os, h.tape, h.output, h.size, fun k hk => h.block k (Nat.lt_of_lt_of_le hk hb)⟩
theorem SWx.fr0 (h : SWx B b mb stv st c w) (hf : Fr [] w w') : SWx B b mb stv st c w' := ⟨h.le, h.sc.fr0 hf, h.sv.belowb (hf.belowB (by simp) (Nat.le_of_lt h.sc.lt)) h.le⟩
theorem SWx.d (h : SWx B b mb stv st c w) (hc : c'.cnt = c.cnt) {en : Ending} (hd : ScD b mb stv c' w en w') : ScP B b mb stv st c' w en w' := ⟨hd.1, ⟨h.le, hd.2.1, by rw [hc]; exact h.sv.belowb hd.2.2 h.le⟩, below_le hd.2.2 h.le⟩
theorem SWx.declares (h : SWx B b mb stv st c w) (nm : ByteArray) : Calls Tryz.prog 173 #[.pointer (some ⟨b, 0, none⟩), .string nm] w (ScP B b mb stv st (c.declares nm) w) := (declares_any h.sc nm).mono fun _ _ hd => h.d (Sc.declares_cnt _ _) hd
theorem SWx.uses (h : SWx B b mb stv st c w) (nm : ByteArray) : Calls Tryz.prog 224 #[.pointer (some ⟨b, 0, none⟩), .string nm] w (ScP B b mb stv st (c.uses nm) w) := (uses_any h.sc nm).mono fun _ _ hd => h.d (Sc.uses_cnt _ _) hd
end
abbrev ArAt (w : World) (mb : Nat) (am : List (ByteArray × Int)) : Prop := MapAt w mb (fun s : ByteArray => Value.string s) (fun z : Int => Value.int .i64 z) am
end

/- What a scope says of one expression. -/
section
open Go.RowKit
set_option linter.unusedSimpArgs false
section
variable {ar : ByteArray → Option Int} {st : Option Int} {x : Nd} {c : Sc}
end
section
variable {b mb : Nat} {stv : Value} {c : Sc} {w : World}
theorem ScW.cells (h : ScW b mb stv c w) : ∃ A3 c3, w.cell? ⟨b, 0, none⟩ = some (.map (some mb)) ∧ w.cell? ⟨b, 3, none⟩ = some (.slice A3 c.inner.length c3) ∧ w.cell? ⟨b, 4, none⟩ = some (.bool c.inFn) ∧ w.cell? ⟨b, 5, none⟩ = some (.int .i64 c.fault) ∧ w.cell? ⟨b, 6, none⟩ = some stv ∧
  w.cell? ⟨b, 7, none⟩ = some (.bool c.ended) ∧ w.frozen? ⟨b, 3, none⟩ = false ∧ w.frozen? ⟨b, 4, none⟩ = false ∧ w.frozen? ⟨b, 5, none⟩ = false ∧ w.frozen? ⟨b, 7, none⟩ = false := by
 obtain ⟨A1, c1, A2, c2, A3, c3, hB, hR⟩ := h
 exact ⟨A3, c3, hB.cell 0 rfl, hB.cell 3 rfl, hB.cell 4 rfl, hB.cell 5 rfl, hB.cell 6 rfl, hB.cell 7 rfl, hB.frozen 3, hB.frozen 4, hB.frozen 5, hB.frozen 7⟩
end
section
variable {B b mb : Nat} {stv : Value} {st : Option Int} {c c' : Sc} {w w' : World}
end
end

end Go.Proofs.YtchldahkcpbgcaaGreatDoor
