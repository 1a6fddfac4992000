/- Texts of this seat, one behind the other: WlkM, WlkA, EdtM, ScM. -/
import Derived.Test.YtchldahkcpbgcaaGreatDoorsk5
import Derived.Test.YtchldahkcpbgcaaGreatDoorsk8
import Derived.Test.YtchldahkcpbgcaaGreatDoorsk14
import Derived.Test.YtchldahkcpbgcaaGreatDoorsk7
namespace Go.Proofs.YtchldahkcpbgcaaGreatDoor
set_option linter.unusedVariables false

/- The statements of a program in the order of the text, and where each stands: plain. -/
section
open Go.RowKit
set_option linter.unusedSimpArgs false
structure Spt where
 func : Nat
 fn : Bool
 parent : Int
 part : Nat
 index : Nat
 size : Nat
deriving DecidableEq
def szF (x : Nd) (s b e : List Nat) : Nat := (if isStmtK x.kind then 1 else 0) + s.sum + b.sum + e.sum
def Nd.sz (x : Nd) : Nat := x.para szF
def szL (l : List Nd) : Nat := (l.map Nd.sz).sum
theorem Nd.sz_eq (x : Nd) : x.sz = (if isStmtK x.kind then 1 else 0) + szL x.subs + szL x.body + szL x.els := by
 unfold Nd.sz
 rw [Nd.para_eq]
 rfl
theorem szL_app (l m : List Nd) : szL (l ++ m) = szL l + szL m := by simp [szL]
theorem Nd.sz_le : ∀ x : Nd, x.sz ≤ x.cnt := by
  have hl : ∀ l : List Nd, (∀ y ∈ l, y.sz ≤ y.cnt) → szL l ≤ cntL l := by
    intro l
    induction l with
    | nil => intro _; simp [szL, cntL]
    | cons y l ih =>
      intro h
      have h1 := ih fun z hz => h z (by simp [hz])
      have h2 := h y (by simp)
      have h3 : szL (y :: l) = y.sz + szL l := by simp [szL]
      rw [h3, cntL]
      omega
  refine Nd.ind fun x hs hb he => ?_
  rw [Nd.sz_eq, Nd.cnt_eq]
  have h1 := hl _ hs
  have h2 := hl _ hb
  have h3 := hl _ he
  split <;> omega
theorem szL_le (l : List Nd) : szL l ≤ cntL l := by
  induction l with
  | nil => simp [szL, cntL]
  | cons y l ih =>
    have h3 : szL (y :: l) = y.sz + szL l := by simp [szL]
    rw [h3, cntL]
    have := y.sz_le
    omega
abbrev Plc := Nd × Spt
mutual
def Nd.plS : Nd → Nat → Spt → List Plc
  | .mk k t m s p b e, at0, sp =>
    let i0 : Spt := { func := sp.func, fn := sp.fn, parent := at0, part := 0, index := 0, size := 0 }
    let E := plE s (at0 + 1) i0
    let B := plL b (at0 + 1 + E.length) { i0 with part := 1 } 0
    let L := plL e (at0 + 1 + E.length + B.length) { i0 with part := 2 } 0
    (.mk k t m s p b e, sp) :: (E ++ B ++ L)
def Nd.plX : Nd → Nat → Spt → List Plc
  | .mk k _ _ s _ b _, at0, sp =>
    let E := plE s at0 sp
    E ++ (if k = 10 then plL b (at0 + E.length) { sp with fn := true, part := 3 } 0 else [])
def plL : List Nd → Nat → Spt → Nat → List Plc
  | [], _, _, _ => []
  | x :: l, at0, sp, i =>
    let q := x.plS at0 { sp with index := i, size := szL [x] }
    q ++ plL l (at0 + q.length) sp (i + 1)
def plE : List Nd → Nat → Spt → List Plc
  | [], _, _ => []
  | x :: l, at0, sp =>
    let q := x.plX at0 sp
    q ++ plE l (at0 + q.length) sp
end
def plF : Nat → Nat → List Fu → List Plc
  | _, _, [] => []
  | at0, i, f :: fs =>
    let q := plL f.body at0 { func := i, fn := false, parent := -1, part := 0, index := 0, size := 0 } 0
    q ++ plF (at0 + q.length) (i + 1) fs
def placesP (fs : List Fu) : List Plc := plF 0 0 fs
def countP (fs : List Fu) : Int := if shapeP fs = 0 then (placesP fs).length else 0
end

/- Where the nodes of the statements lie; the sequence of what is yielded. -/
section
open Go.RowKit
set_option linter.unusedSimpArgs false
def slA (W : World) (a : Addr) (j : Nat) : Option Addr := match W.cell? ⟨a.block, a.off + j, none⟩ with | some (.slice A _ _) => A | _ => none
def ndA (A : Option Addr) (i : Nat) : Addr := match A with | some ⟨b, off, _⟩ => ⟨b, off + i * 7, none⟩ | none => ⟨0, 0, none⟩
mutual
def Nd.adS : Nd → World → Addr → List Addr
 | .mk k t m s p b e, W, a => a :: (adE s W (slA W a 3) 0 ++ adL b W (slA W a 5) 0 ++ adL e W (slA W a 6) 0)
def Nd.adX : Nd → World → Addr → List Addr
 | .mk k _ _ s _ b _, W, a => adE s W (slA W a 3) 0 ++ (if k = 10 then adL b W (slA W a 5) 0 else [])
def adL : List Nd → World → Option Addr → Nat → List Addr
 | [], _, _, _ => []
 | x :: l, W, A, i => x.adS W (ndA A i) ++ adL l W A (i + 1)
def adE : List Nd → World → Option Addr → Nat → List Addr
 | [], _, _, _ => []
 | x :: l, W, A, i => x.adX W (ndA A i) ++ adE l W A (i + 1)
end
mutual
theorem adS_len : ∀ (x : Nd) (W : World) (a : Addr) (at0 : Nat) (sp : Spt), (x.adS W a).length = (x.plS at0 sp).length
  | .mk k t m s p b e, W, a, at0, sp => by
    rw [Nd.adS, Nd.plS]
    simp only [List.length_cons, List.length_append]
    rw [adE_len s, adL_len b, adL_len e]
theorem adX_len : ∀ (x : Nd) (W : World) (a : Addr) (at0 : Nat) (sp : Spt), (x.adX W a).length = (x.plX at0 sp).length
  | .mk k t m s p b e, W, a, at0, sp => by
    rw [Nd.adX, Nd.plX]
    simp only [List.length_append]
    rw [adE_len s W _ 0 at0 sp]
    split
    · rw [adL_len b]
    · rfl
theorem adL_len : ∀ (l : List Nd) (W : World) (A : Option Addr) (i : Nat) (at0 : Nat) (sp : Spt) (j : Nat), (adL l W A i).length = (plL l at0 sp j).length
  | [], _, _, _, _, _, _ => by rw [adL, plL]; rfl
  | x :: l, W, A, i, at0, sp, j => by
    rw [adL, plL]
    simp only [List.length_append]
    rw [adS_len x, adL_len l]
theorem adE_len : ∀ (l : List Nd) (W : World) (A : Option Addr) (i : Nat) (at0 : Nat) (sp : Spt), (adE l W A i).length = (plE l at0 sp).length
  | [], _, _, _, _, _ => by rw [adE, plE]; rfl
  | x :: l, W, A, i, at0, sp => by
    rw [adE, plE]
    simp only [List.length_append]
    rw [adX_len x, adE_len l]
end
theorem plL_app (l m : List Nd) (at0 : Nat) (sp : Spt) (i : Nat) : plL (l ++ m) at0 sp i = plL l at0 sp i ++ plL m (at0 + (plL l at0 sp i).length) sp (i + l.length) := by
  induction l generalizing at0 i with
  | nil => simp [plL]
  | cons x l ih =>
    rw [List.cons_append, plL, plL]
    simp only [List.append_assoc, ih, List.length_append, List.length_cons]
    rw [show i + (l.length + 1) = i + 1 + l.length by omega, Nat.add_assoc at0]
theorem adL_app (l m : List Nd) (W : World) (A : Option Addr) (i : Nat) : adL (l ++ m) W A i = adL l W A i ++ adL m W A (i + l.length) := by
  induction l generalizing i with
  | nil => simp [adL]
  | cons x l ih =>
    rw [List.cons_append, adL, adL, ih, List.append_assoc, List.length_cons, Nat.add_assoc, Nat.add_comm 1]
theorem plE_app (l m : List Nd) (at0 : Nat) (sp : Spt) : plE (l ++ m) at0 sp = plE l at0 sp ++ plE m (at0 + (plE l at0 sp).length) sp := by
  induction l generalizing at0 with
  | nil => simp [plE]
  | cons x l ih =>
    rw [List.cons_append, plE, plE]
    simp only [List.append_assoc, ih, List.length_append]
    rw [Nat.add_assoc]
theorem adE_app (l m : List Nd) (W : World) (A : Option Addr) (i : Nat) : adE (l ++ m) W A i = adE l W A i ++ adE m W A (i + l.length) := by
  induction l generalizing i with
  | nil => simp [adE]
  | cons x l ih =>
    rw [List.cons_append, adE, adE, ih, List.append_assoc, List.length_cons, Nat.add_assoc, Nat.add_comm 1]
theorem ndA_at {b off : Nat} (i : Nat) : ndA (some ⟨b, off, none⟩) i = ⟨b, off + i * 7, none⟩ := rfl
theorem slA_at {W : World} {b o j : Nat} {A : Option Addr} {n c : Nat} (h : W.cell? ⟨b, o + j, none⟩ = some (.slice A n c)) : slA W ⟨b, o, none⟩ j = A := by
 unfold slA
 simp only
 rw [h]
abbrev spotC (sp : Spt) : Array Value := #[.int .i64 sp.func, .bool sp.fn, .int .i64 sp.parent, .int .i64 sp.part, .int .i64 sp.index, .int .i64 sp.size]
abbrev plC (a : Addr) (sp : Spt) : Array Value := #[.pointer (some a), .int .i64 sp.func, .bool sp.fn, .int .i64 sp.parent, .int .i64 sp.part, .int .i64 sp.index, .int .i64 sp.size]
def plV (k : Nat) (a : Addr) (sp : Spt) : Array Value := #[.int .i64 k, .agg (plC a sp)]
def Seg (f : Nat → Array Value) (at0 : Nat) (ps : List Plc) (qs : List Addr) : Prop := ∀ k p a, ps[k]? = some p → qs[k]? = some a → f (at0 + k) = plV (at0 + k) a p.2
theorem Seg.app {f : Nat → Array Value} {at0 : Nat} {p1 p2 : List Plc} {a1 a2 : List Addr} (hl : a1.length = p1.length) (h : Seg f at0 (p1 ++ p2) (a1 ++ a2)) : Seg f at0 p1 a1 ∧ Seg f (at0 + p1.length) p2 a2 := by
 refine ⟨fun k p a h1 h2 => h k p a ?_ ?_, fun k p a h1 h2 => ?_⟩
 ·rw [List.getElem?_append_left (List.getElem?_eq_some_iff.1 h1).1]; exact h1
 ·rw [List.getElem?_append_left (List.getElem?_eq_some_iff.1 h2).1]; exact h2
 ·have := h (p1.length + k) p a (by rw [List.getElem?_append_right (by omega), Nat.add_sub_cancel_left]; exact h1) (by rw [List.getElem?_append_right (by omega), hl, Nat.add_sub_cancel_left]; exact h2)
  rw [← Nat.add_assoc] at this
  exact this
def seqF (ps : List Plc) (qs : List Addr) (k : Nat) : Array Value := match ps[k]?, qs[k]? with | some p, some a => plV k a p.2 | _, _ => #[.int .i64 k, .agg #[]]
theorem seqF_seg (ps : List Plc) (qs : List Addr) : Seg (seqF ps qs) 0 ps qs := fun k p a h1 h2 => by
 rw [Nat.zero_add]
 unfold seqF
 rw [h1, h2]
theorem seqF_size (ps : List Plc) (qs : List Addr) (k : Nat) : (seqF ps qs k).size = 2 := by
 unfold seqF
 split <;> rfl
def fuA (A : Option Addr) (i : Nat) : Addr := match A with | some ⟨b, off, _⟩ => ⟨b, off + i * 3, none⟩ | none => ⟨0, 0, none⟩
def adF (W : World) (A : Option Addr) : Nat → List Fu → List Addr
 | _, [] => []
 | i, f :: fs => adL f.body W (slA W (fuA A i) 2) 0 ++ adF W A (i + 1) fs
theorem adF_len (W : World) (A : Option Addr) : ∀ (fs : List Fu) (i at0 j : Nat), (adF W A i fs).length = (plF at0 j fs).length
  | [], _, _, _ => rfl
  | f :: fs, i, at0, j => by
    rw [adF, plF]
    simp only [List.length_append]
    rw [adL_len f.body, adF_len W A fs]
theorem plF_app (fs gs : List Fu) (at0 i : Nat) : plF at0 i (fs ++ gs) = plF at0 i fs ++ plF (at0 + (plF at0 i fs).length) (i + fs.length) gs := by
  induction fs generalizing at0 i with
  | nil => simp [plF]
  | cons x l ih =>
    rw [List.cons_append, plF, plF]
    simp only [List.append_assoc, ih, List.length_append, List.length_cons]
    rw [Nat.add_assoc at0, Nat.add_assoc i, Nat.add_comm 1]
theorem adF_app (W : World) (A : Option Addr) (fs gs : List Fu) (i : Nat) : adF W A i (fs ++ gs) = adF W A i fs ++ adF W A (i + fs.length) gs := by
  induction fs generalizing i with
  | nil => simp [adF]
  | cons x l ih =>
    rw [List.cons_append, adF, adF, ih, List.append_assoc, List.length_cons, Nat.add_assoc, Nat.add_comm 1]
mutual
theorem plS_le : ∀ (x : Nd) (at0 : Nat) (sp : Spt), (x.plS at0 sp).length ≤ x.cnt
  | .mk k t m s p b e, at0, sp => by
    rw [Nd.plS, Nd.cnt]
    simp only [List.length_cons, List.length_append]
    have h1 := plE_le s (at0 + 1) { func := sp.func, fn := sp.fn, parent := at0, part := 0, index := 0, size := 0 }
    have h2 := plL_le b
    have h3 := plL_le e
    have h4 := h2 (at0 + 1 + (plE s (at0 + 1) { func := sp.func, fn := sp.fn, parent := at0, part := 0, index := 0, size := 0 }).length) { func := sp.func, fn := sp.fn, parent := at0, part := 1, index := 0, size := 0 } 0
    have h5 := h3 (at0 + 1 + (plE s (at0 + 1) { func := sp.func, fn := sp.fn, parent := at0, part := 0, index := 0, size := 0 }).length + (plL b (at0 + 1 + (plE s (at0 + 1) { func := sp.func, fn := sp.fn, parent := at0, part := 0, index := 0, size := 0 }).length) { func := sp.func, fn := sp.fn, parent := at0, part := 1, index := 0, size := 0 } 0).length) { func := sp.func, fn := sp.fn, parent := at0, part := 2, index := 0, size := 0 } 0
    omega
theorem plX_le : ∀ (x : Nd) (at0 : Nat) (sp : Spt), (x.plX at0 sp).length ≤ x.cnt
  | .mk k t m s p b e, at0, sp => by
    rw [Nd.plX, Nd.cnt]
    simp only [List.length_append]
    have h1 := plE_le s at0 sp
    split
    · have h2 := plL_le b (at0 + (plE s at0 sp).length) { sp with fn := true, part := 3 } 0
      omega
    · simp
      omega
theorem plL_le : ∀ (l : List Nd) (at0 : Nat) (sp : Spt) (i : Nat), (plL l at0 sp i).length ≤ cntL l
  | [], _, _, _ => by rw [plL, cntL]; exact Nat.le_refl _
  | x :: l, at0, sp, i => by
    rw [plL, cntL]
    simp only [List.length_append]
    have h1 := plS_le x at0 { sp with index := i, size := szL [x] }
    have h2 := plL_le l (at0 + (x.plS at0 { sp with index := i, size := szL [x] }).length) sp (i + 1)
    omega
theorem plE_le : ∀ (l : List Nd) (at0 : Nat) (sp : Spt), (plE l at0 sp).length ≤ cntL l
  | [], _, _ => by rw [plE, cntL]; exact Nat.le_refl _
  | x :: l, at0, sp => by
    rw [plE, cntL]
    simp only [List.length_append]
    have h1 := plX_le x at0 sp
    have h2 := plE_le l (at0 + (x.plX at0 sp).length) sp
    omega
end
theorem plF_le (fs : List Fu) (at0 i : Nat) : (plF at0 i fs).length ≤ cntF fs := by
  induction fs generalizing at0 i with
  | nil => simp [plF, cntF]
  | cons f l ih =>
    rw [plF]
    simp only [List.length_append]
    have h1 := plL_le f.body at0 { func := i, fn := false, parent := -1, part := 0, index := 0, size := 0 } 0
    have h2 := ih (at0 + (plL f.body at0 { func := i, fn := false, parent := -1, part := 0, index := 0, size := 0 } 0).length) (i + 1)
    have h3 : cntF (f :: l) = cntL f.body + cntF l := by simp [cntF]
    omega
end

/- Programs, edited statement by statement: plain. -/
section
open Go.RowKit
set_option linter.unusedSimpArgs false
mutual
def Nd.nuS : Nd → Nat
 | .mk k t m s p b e => 1 + nuE s + nuL b + nuL e
def Nd.nuX : Nd → Nat
 | .mk k t m s p b e => nuE s + (if k = 10 then nuL b else 0)
def nuL : List Nd → Nat
 | [] => 0
 | x :: l => x.nuS + nuL l
def nuE : List Nd → Nat
 | [] => 0
 | x :: l => x.nuX + nuE l
end
mutual
def Nd.edS (ed : Nat → Nd → List Nd) : Nd → Nat → List Nd
 | .mk k t m s p b e, i => ed i (.mk k t m (edE ed s (i + 1)) p (edL ed b (i + 1 + nuE s)) (edL ed e (i + 1 + nuE s + nuL b)))
def Nd.edX (ed : Nat → Nd → List Nd) : Nd → Nat → Nd
 | .mk k t m s p b e, i => .mk k t m (edE ed s i) p (if k = 10 then edL ed b (i + nuE s) else b) e
def edL (ed : Nat → Nd → List Nd) : List Nd → Nat → List Nd
 | [], _ => []
 | x :: l, i => x.edS ed i ++ edL ed l (i + x.nuS)
def edE (ed : Nat → Nd → List Nd) : List Nd → Nat → List Nd
 | [], _ => []
 | x :: l, i => x.edX ed i :: edE ed l (i + x.nuX)
end
theorem Nd.nuS_eq (x : Nd) : x.nuS = 1 + nuE x.subs + nuL x.body + nuL x.els := by cases x; rw [Nd.nuS]; rfl
theorem Nd.nuX_eq (x : Nd) : x.nuX = nuE x.subs + (if x.kind = 10 then nuL x.body else 0) := by cases x; rw [Nd.nuX]; rfl
theorem Nd.edS_eq (ed : Nat → Nd → List Nd) (x : Nd) (i : Nat) : x.edS ed i = ed i (.mk x.kind x.text x.num (edE ed x.subs (i + 1)) x.params (edL ed x.body (i + 1 + nuE x.subs)) (edL ed x.els (i + 1 + nuE x.subs + nuL x.body))) := by cases x; rw [Nd.edS]; rfl
theorem Nd.edX_eq (ed : Nat → Nd → List Nd) (x : Nd) (i : Nat) : x.edX ed i = .mk x.kind x.text x.num (edE ed x.subs i) x.params (if x.kind = 10 then edL ed x.body (i + nuE x.subs) else x.body) x.els := by cases x; rw [Nd.edX]; rfl
theorem nuL_app (l m : List Nd) : nuL (l ++ m) = nuL l + nuL m := by
 induction l with
 | nil => rw [List.nil_append, nuL, Nat.zero_add]
 | cons x l ih => rw [List.cons_append, nuL, nuL, ih, Nat.add_assoc]
theorem nuE_app (l m : List Nd) : nuE (l ++ m) = nuE l + nuE m := by
 induction l with
 | nil => rw [List.nil_append, nuE, Nat.zero_add]
 | cons x l ih => rw [List.cons_append, nuE, nuE, ih, Nat.add_assoc]
theorem edL_app (ed : Nat → Nd → List Nd) (l m : List Nd) : ∀ i, edL ed (l ++ m) i = edL ed l i ++ edL ed m (i + nuL l) := by
 induction l with
 | nil => intro i; rw [List.nil_append, edL, nuL]; rfl
 | cons x l ih => intro i; rw [List.cons_append, edL, edL, ih, nuL, List.append_assoc, Nat.add_assoc]
theorem edE_app (ed : Nat → Nd → List Nd) (l m : List Nd) : ∀ i, edE ed (l ++ m) i = edE ed l i ++ edE ed m (i + nuE l) := by
 induction l with
 | nil => intro i; rw [List.nil_append, edE, nuE]; rfl
 | cons x l ih => intro i; rw [List.cons_append, edE, edE, ih, nuE, List.cons_append, Nat.add_assoc]
theorem edE_len (ed : Nat → Nd → List Nd) : ∀ (l : List Nd) (i : Nat), (edE ed l i).length = l.length
 | [], _ => by rw [edE]
 | x :: l, i => by rw [edE, List.length_cons, edE_len ed l, List.length_cons]
mutual
theorem Nd.nuS_le : ∀ x : Nd, x.nuS ≤ x.cnt
  | .mk k t m s p b e => by
    rw [Nd.nuS, Nd.cnt]
    have := nuE_le s
    have := nuL_le b
    have := nuL_le e
    omega
theorem Nd.nuX_le : ∀ x : Nd, x.nuX ≤ x.cnt
  | .mk k t m s p b e => by
    rw [Nd.nuX, Nd.cnt]
    have := nuE_le s
    have := nuL_le b
    split <;> omega
theorem nuL_le : ∀ l : List Nd, nuL l ≤ cntL l
  | [] => by rw [nuL]; exact Nat.zero_le _
  | x :: l => by
    rw [nuL, cntL]
    have := x.nuS_le
    have := nuL_le l
    omega
theorem nuE_le : ∀ l : List Nd, nuE l ≤ cntL l
  | [] => by rw [nuE]; exact Nat.zero_le _
  | x :: l => by
    rw [nuE, cntL]
    have := x.nuX_le
    have := nuE_le l
    omega
end
theorem edL_len {ed : Nat → Nd → List Nd} {M : Nat} (h : ∀ i x, (ed i x).length ≤ M) : ∀ (l : List Nd) (i : Nat), (edL ed l i).length ≤ M * l.length
  | [], _ => by rw [edL]; exact Nat.zero_le _
  | x :: l, i => by
    rw [edL, List.length_append, Nd.edS_eq, List.length_cons, Nat.mul_add, Nat.mul_one]
    have h1 := edL_len h l (i + x.nuS)
    have h2 := h i (.mk x.kind x.text x.num (edE ed x.subs (i + 1)) x.params (edL ed x.body (i + 1 + nuE x.subs)) (edL ed x.els (i + 1 + nuE x.subs + nuL x.body)))
    omega
def edF (ed : Nat → Nd → List Nd) : List Fu → Nat → List Fu
 | [], _ => []
 | f :: fs, i => ⟨f.name, f.params, edL ed f.body i⟩ :: edF ed fs (i + nuL f.body)
def nuF (fs : List Fu) : Nat := (fs.map fun f => nuL f.body).sum
theorem edF_app (ed : Nat → Nd → List Nd) (l m : List Fu) : ∀ i, edF ed (l ++ m) i = edF ed l i ++ edF ed m (i + nuF l) := by
 induction l with
 | nil => intro i; simp [edF, nuF]
 | cons x l ih => intro i; rw [List.cons_append, edF, edF, ih, List.cons_append]; simp [nuF, Nat.add_assoc]
theorem edF_len (ed : Nat → Nd → List Nd) : ∀ (l : List Fu) (i : Nat), (edF ed l i).length = l.length
 | [], _ => by rw [edF]
 | x :: l, i => by rw [edF, List.length_cons, edF_len ed l, List.length_cons]
end

/- What a function's text declares: plain. -/
section
open Go.RowKit
set_option linter.unusedSimpArgs false
structure Sc where
 decl : List ByteArray
 outer : List ByteArray
 inner : List ByteArray
 inFn : Bool
 fault : Int
 ended : Bool
 cnt : Nat
def Sc.over (c : Sc) : Bool := !decide (c.fault = 0) || c.ended
def Sc.declares (c : Sc) (nm : ByteArray) : Sc :=
 if c.over then c else if inS c.decl nm then { c with fault := 6 } else if 64 ≤ c.decl.length then { c with fault := 3 } else
 { c with decl := c.decl ++ [nm], inner := if c.inFn then c.inner ++ [nm] else c.inner, outer := if c.inFn then c.outer else c.outer ++ [nm] }
def Sc.uses (c : Sc) (nm : ByteArray) : Sc := if !c.over && (!inS c.outer nm && !inS c.inner nm) then { c with fault := 5 } else c
def Sc.decls (c : Sc) (l : List ByteArray) : Sc := l.foldl Sc.declares c
mutual
def Nd.scX (ar : ByteArray → Option Int) (st : Option Int) : Nd → Sc → Sc
  | .mk k t m s p b e, c =>
    if k = 10 then
      let c2 := scL ar st b (({ c with inFn := true, inner := [] } : Sc).decls p)
      if c2.ended then c2 else { c2 with inFn := false, inner := [] }
    else if k = 5 ∨ k = 13 then
      match ar t with
      | none => { c with fault := 5 }
      | some n => if n = s.length then scE ar st s c else { c with fault := 1 }
    else scE ar st s (if k = 2 then c.uses t else c)
def Nd.scS (ar : ByteArray → Option Int) (st : Option Int) : Nd → Sc → Sc
  | .mk k t m s p b e, c =>
    let c1 := scE ar st s c
    if c1.over then c1 else
    if k = 21 then
      let c2 := scL ar st b c1
      scL ar st e (if c2.ended then c2 else c2.declares t)
    else scL ar st e (scL ar st b (if k = 14 then c1.declares t else if k = 15 then c1.uses t else c1))
def scE (ar : ByteArray → Option Int) (st : Option Int) : List Nd → Sc → Sc
  | [], c => c
  | x :: l, c => if c.over then c else scE ar st l (x.scX ar st c)
def scL (ar : ByteArray → Option Int) (st : Option Int) : List Nd → Sc → Sc
  | [], c => c
  | x :: l, c => if c.over then c else if st = some (c.cnt : Int) then { c with cnt := c.cnt + 1, ended := true } else scL ar st l (x.scS ar st { c with cnt := c.cnt + 1 })
end
theorem Sc.declares_cnt (c : Sc) (nm : ByteArray) : (c.declares nm).cnt = c.cnt := by
 unfold Sc.declares
 split
 ·rfl
 ·split
  ·rfl
  ·split <;> rfl
theorem Sc.uses_cnt (c : Sc) (nm : ByteArray) : (c.uses nm).cnt = c.cnt := by
 unfold Sc.uses
 split <;> rfl
theorem Sc.decls_cnt (l : List ByteArray) : ∀ c : Sc, (c.decls l).cnt = c.cnt := by
 induction l with
 | nil => intro c; rfl
 | cons x l ih => intro c; show ((c.declares x).decls l).cnt = c.cnt; rw [ih, Sc.declares_cnt]
mutual
theorem scX_cnt (ar : ByteArray → Option Int) (st : Option Int) : ∀ (x : Nd) (c : Sc), (x.scX ar st c).cnt ≤ c.cnt + x.cnt
  | .mk k t m s p b e, c => by
    rw [Nd.scX, Nd.cnt]
    have h1 := scE_cnt ar st s
    have h2 := scL_cnt ar st b
    split
    · have h3 := h2 (({ c with inFn := true, inner := [] } : Sc).decls p)
      rw [Sc.decls_cnt] at h3
      dsimp only at h3 ⊢
      split
      · omega
      · dsimp only
        omega
    · split
      · split
        · dsimp only; omega
        · split
          · have := h1 c; omega
          · dsimp only; omega
      · have h3 := h1 (if k = 2 then c.uses t else c)
        have h4 : (if k = 2 then c.uses t else c).cnt = c.cnt := by split; exact Sc.uses_cnt _ _; rfl
        omega
theorem scS_cnt (ar : ByteArray → Option Int) (st : Option Int) : ∀ (x : Nd) (c : Sc), (x.scS ar st c).cnt + 1 ≤ c.cnt + x.cnt
  | .mk k t m s p b e, c => by
    rw [Nd.scS, Nd.cnt]
    have h1 := scE_cnt ar st s c
    have h2 := scL_cnt ar st b
    have h3 := scL_cnt ar st e
    dsimp only
    split
    · omega
    · split
      · have h4 := h2 (scE ar st s c)
        have h5 := h3 (if (scL ar st b (scE ar st s c)).ended = true then scL ar st b (scE ar st s c) else (scL ar st b (scE ar st s c)).declares t)
        have h6 : (if (scL ar st b (scE ar st s c)).ended = true then scL ar st b (scE ar st s c) else (scL ar st b (scE ar st s c)).declares t).cnt = (scL ar st b (scE ar st s c)).cnt := by
          split
          · rfl
          · exact Sc.declares_cnt _ _
        omega
      · have h6 : (if k = 14 then (scE ar st s c).declares t else if k = 15 then (scE ar st s c).uses t else scE ar st s c).cnt = (scE ar st s c).cnt := by
          split
          · exact Sc.declares_cnt _ _
          · split
            · exact Sc.uses_cnt _ _
            · rfl
        generalize (if k = 14 then (scE ar st s c).declares t else if k = 15 then (scE ar st s c).uses t else scE ar st s c) = c2 at *
        have h4 := h2 c2
        have h5 := h3 (scL ar st b c2)
        omega
theorem scE_cnt (ar : ByteArray → Option Int) (st : Option Int) : ∀ (l : List Nd) (c : Sc), (scE ar st l c).cnt ≤ c.cnt + cntL l
  | [], c => by rw [scE, cntL]; omega
  | x :: l, c => by
    rw [scE, cntL]
    split
    · omega
    · have h1 := scX_cnt ar st x c
      have h2 := scE_cnt ar st l (x.scX ar st c)
      omega
theorem scL_cnt (ar : ByteArray → Option Int) (st : Option Int) : ∀ (l : List Nd) (c : Sc), (scL ar st l c).cnt ≤ c.cnt + cntL l
  | [], c => by rw [scL, cntL]; omega
  | x :: l, c => by
    rw [scL, cntL]
    have h0 : 1 ≤ x.cnt := by rw [Nd.cnt_eq]; omega
    split
    · omega
    · split
      · dsimp only; omega
      · have h1 := scS_cnt ar st x { c with cnt := c.cnt + 1 }
        have h2 := scL_cnt ar st l (x.scS ar st { c with cnt := c.cnt + 1 })
        dsimp only at h1
        omega
end
def arL (fs : List Fu) : List (ByteArray × Int) := fs.map fun f => (f.name, (f.params.length : Int))
def twiceB (seen : List ByteArray) : List Fu → Bool
 | [] => false
 | f :: fs => inS seen f.name || twiceB (seen ++ [f.name]) fs
end

end Go.Proofs.YtchldahkcpbgcaaGreatDoor
