/- Texts of this seat, one behind the other: PrtM. -/
import Derived.Test.YtchldahkcpbgcaaGreatDoorsk4
import Derived.Test.YtchldahkcpbgcaaGreatDoorsk2
import Derived.Lib.AppendIntMem
namespace Go.Proofs.YtchldahkcpbgcaaGreatDoor
set_option linter.unusedVariables false

/- The written form of nodes: plain. -/
section
open Go.RowKit
set_option linter.unusedSimpArgs false
section
variable {α : Type}
mutual
def Nd.para (f : Nd → List α → List α → List α → α) : Nd → α
 | .mk k t m s p b e => f (.mk k t m s p b e) (paraL f s) (paraL f b) (paraL f e)
def paraL (f : Nd → List α → List α → List α → α) : List Nd → List α
 | [] => []
 | x :: l => x.para f :: paraL f l
end
theorem paraL_eq (f : Nd → List α → List α → List α → α) : ∀ l : List Nd, paraL f l = l.map (Nd.para f)
 | [] => rfl
 | x :: l => by rw [paraL, paraL_eq f l]; rfl
theorem Nd.para_eq (f : Nd → List α → List α → List α → α) (x : Nd) : x.para f = f x (x.subs.map (Nd.para f)) (x.body.map (Nd.para f)) (x.els.map (Nd.para f)) := by
 cases x
 rw [Nd.para, paraL_eq, paraL_eq, paraL_eq]
 rfl
end
abbrev Bs := List UInt8
def sb (s : ByteArray) : Bs := s.data.toList
theorem sb_len (s : ByteArray) : (sb s).length = s.size := Array.length_toList
def indB (lv : Nat) : Bs := (List.replicate lv [32, 32]).flatten
theorem indB_succ (k : Nat) : indB (k + 1) = indB k ++ [32, 32] := by
 unfold indB
 rw [List.replicate_succ', List.flatten_append]
 rfl
theorem indB_len (k : Nat) : (indB k).length = 2 * k := by
 induction k with
 | zero => rfl
 | succ k ih => rw [indB_succ, List.length_append, ih]; simp; omega
def commas : List Bs → Bs
 | [] => []
 | x :: l => x ++ (l.map fun y => [44, 32] ++ y).flatten
theorem commas_app (l : List Bs) (y : Bs) : commas (l ++ [y]) = commas l ++ (if l.length = 0 then [] else [44, 32]) ++ y := by
 cases l with
 | nil => simp [commas]
 | cons x l => simp [commas]
abbrev decB (n : Int) : Bs := Lib.itoa n
def parB (ks : List Int) (k : Int) (t : Bs) : Bs := if k ∈ ks then [40] ++ t ++ [41] else t
def kindOf (l : List Nd) (i : Nat) : Int := ((l[i]?).map Nd.kind).getD 0
def opnd (ks : List Int) (x : Nd) (es : List Bs) (i : Nat) : Bs := parB ks (kindOf x.subs i) (es.getD i [])
def callB (before : Bs) (es : List Bs) : Bs := (before ++ [40]) ++ commas es ++ [41]
def loadB (x : Nd) (es : List Bs) : Bs := opnd [3, 4] x es 0 ++ [91] ++ es.getD 1 [] ++ [93]
def stmtsB (lv : Nat) (bs : List Bs) : Bs := (bs.map fun t => indB lv ++ t ++ [10]).flatten
theorem stmtsB_app (lv : Nat) (bs : List Bs) (t : Bs) : stmtsB lv (bs ++ [t]) = stmtsB lv bs ++ (indB lv ++ t ++ [10]) := by simp [stmtsB]
def blockB (lv : Nat) (bs : List Bs) (behind : Bs) : Bs := [32, 123, 10] ++ stmtsB (lv + 1) bs ++ indB lv ++ behind
def joinB (ps : List ByteArray) : Bs := commas (ps.map sb)
def exprF (x : Nd) (es bs : List Bs) (lv : Nat) : Bs :=
 if x.kind = 1 then decB x.num
 else if x.kind = 2 then sb x.text
 else if x.kind = 3 then sb x.text ++ opnd [4] x es 0
 else if x.kind = 4 then opnd [4] x es 0 ++ ([32] ++ sb x.text ++ [32]) ++ opnd [4] x es 1
 else if x.kind = 5 then callB (sb x.text) es
 else if x.kind = 13 then callB ([115, 112, 97, 119, 110, 32] ++ sb x.text) es
 else if x.kind = 6 then opnd [3, 4] x es 0 ++ callB [46] (es.drop 1)
 else if x.kind = 7 then callB [110, 101, 119] es
 else if x.kind = 9 then callB [108, 101, 110] es
 else if x.kind = 8 then loadB x es
 else if x.kind = 11 then [105, 110, 112, 117, 116]
 else if x.kind = 12 then [99, 108, 111, 99, 107]
 else if x.kind = 10 then ([102, 110, 32, 40] ++ joinB x.params ++ [41, 32, 123, 10]) ++ stmtsB (lv + 1) bs ++ indB lv ++ [125]
 else []
def plainF (k : Int) (t : ByteArray) : Option Bs :=
 if k = 14 then some ([108, 101, 116, 32] ++ sb t ++ [32, 61, 32])
 else if k = 15 then some (sb t ++ [32, 61, 32])
 else if k = 19 then some [114, 101, 116, 117, 114, 110, 32]
 else if k = 20 then some [116, 104, 114, 111, 119, 32]
 else if k = 22 then some [106, 111, 105, 110, 32]
 else if k = 23 then some [108, 111, 99, 107, 32]
 else if k = 24 then some [117, 110, 108, 111, 99, 107, 32]
 else if k = 25 then some [112, 114, 105, 110, 116, 32]
 else if k = 26 then some [97, 115, 115, 101, 114, 116, 32]
 else if k = 27 then some []
 else none
def stmtF (x : Nd) (es bs os : List Bs) (lv : Nat) : Bs :=
  match plainF x.kind x.text with
  | some b => b ++ es.getD 0 [] ++ [59]
  | none =>
    if x.kind = 16 then loadB x es ++ [32, 61, 32] ++ es.getD 2 [] ++ [59]
    else if x.kind = 17 then [105, 102, 32] ++ es.getD 0 [] ++ blockB lv bs [125] ++ (if os = [] then [] else [32, 101, 108, 115, 101] ++ blockB lv os [125])
    else if x.kind = 18 then [119, 104, 105, 108, 101, 32] ++ es.getD 0 [] ++ blockB lv bs [125]
    else if x.kind = 21 then [116, 114, 121] ++ blockB lv bs ([125, 32, 99, 97, 116, 99, 104, 32] ++ sb x.text) ++ blockB lv os [125]
    else []
def prF (x : Nd) (s b e : List (Nat → Bs × Bs)) : Nat → Bs × Bs := fun lv =>
 (exprF x (s.map fun g => (g lv).1) (b.map fun g => (g (lv + 1)).2) lv, stmtF x (s.map fun g => (g lv).1) (b.map fun g => (g (lv + 1)).2) (e.map fun g => (g (lv + 1)).2) lv)
def Nd.exprB (x : Nd) (lv : Nat) : Bs := (x.para prF lv).1
def Nd.stmtB (x : Nd) (lv : Nat) : Bs := (x.para prF lv).2
def exprsB (l : List Nd) (lv : Nat) : List Bs := l.map fun x => x.exprB lv
def linesB (l : List Nd) (lv : Nat) : List Bs := l.map fun x => x.stmtB lv
theorem exprB_eq (x : Nd) (lv : Nat) : x.exprB lv = exprF x (exprsB x.subs lv) (linesB x.body (lv + 1)) lv := by
 unfold Nd.exprB
 rw [Nd.para_eq]
 simp only [prF, List.map_map]
 rfl
theorem stmtB_eq (x : Nd) (lv : Nat) : x.stmtB lv = stmtF x (exprsB x.subs lv) (linesB x.body (lv + 1)) (linesB x.els (lv + 1)) lv := by
 unfold Nd.stmtB
 rw [Nd.para_eq]
 simp only [prF, List.map_map]
 rfl
def fuT (f : Fu) : Bs := ([102, 117, 110, 32] ++ sb f.name ++ [40] ++ joinB f.params ++ [41]) ++ blockB 0 (linesB f.body 1) [125, 10]
def progB (fs : List Fu) : Bs := (fs.map fuT).flatten
end

end Go.Proofs.YtchldahkcpbgcaaGreatDoor
