/- Texts of this seat, one behind the other: NdG. -/
import Derived.Test.YtchldahkcpbgcaaGreatDoorsk2
import Derived.Test.YtchldahkcpbgcaaGreatDoorProg
namespace Go.Proofs.YtchldahkcpbgcaaGreatDoor
set_option linter.unusedVariables false

/- Nodes in the making: rows of nodes that the call gathers, nodes that are built. -/
section
open Go.RowKit
set_option linter.unusedSimpArgs false
theorem elemNd : Elem Tryz.prog 43 46 (.agg #[.int .u8 0, .string ⟨#[]⟩, .int .i64 0, .slice none 0 0, .slice none 0 0, .slice none 0 0, .slice none 0 0]) 7 128 := ⟨Tryz.underlying43, by kernel_rfl, rfl, by omega, by omega⟩
abbrev ndL (x : Nd) (h : HdN) : List Value := [.int .u8 x.kind, .string x.text, .int .i64 x.num, .slice h.As x.subs.length h.cs, .slice h.Ap x.params.length h.cp, .slice h.Ab x.body.length h.cb, .slice h.Ae x.els.length h.ce]
def flatN (l : List Nd) (hs : List HdN) : List Value := (l.zip hs).flatMap fun p => ndL p.1 p.2
theorem flatN_cons (x : Nd) (l : List Nd) (h : HdN) (hs : List HdN) : flatN (x :: l) (h :: hs) = ndL x h ++ flatN l hs := rfl
theorem ndL_len (x : Nd) (h : HdN) : (ndL x h).length = 7 := rfl
theorem flatN_len : ∀ (l : List Nd) (hs : List HdN), hs.length = l.length → (flatN l hs).length = l.length * 7
  | [], hs, _ => by simp [flatN]
  | x :: l, [], e => by simp at e
  | x :: l, h :: hs, e => by
    rw [flatN_cons, List.length_append, ndL_len, flatN_len l hs (by simpa using e), List.length_cons]
    omega
theorem flatN_app (l : List Nd) (hs : List HdN) (x : Nd) (h : HdN) (e : hs.length = l.length) : flatN (l ++ [x]) (hs ++ [h]) = flatN l hs ++ ndL x h := by
 unfold flatN
 rw [List.zip_append e.symm, List.flatMap_append]
 rfl
theorem flatN_at : ∀ (l : List Nd) (hs : List HdN) (k j : Nat) (x : Nd) (h : HdN), l[k]? = some x → hs[k]? = some h → j < 7 → (flatN l hs)[k * 7 + j]? = (ndL x h)[j]?
  | [], _, k, j, x, h, e1, _, _ => by simp at e1
  | y :: l, [], k, j, x, h, _, e2, _ => by simp at e2
  | y :: l, g :: hs, 0, j, x, h, e1, e2, hj => by
    rw [List.getElem?_cons_zero] at e1 e2
    injection e1 with e1
    injection e2 with e2
    subst e1 e2
    rw [flatN_cons, List.getElem?_append_left (by rw [ndL_len]; omega), Nat.zero_mul, Nat.zero_add]
  | y :: l, g :: hs, k + 1, j, x, h, e1, e2, hj => by
    have := flatN_at l hs k j x h (by simpa using e1) (by simpa using e2) hj
    rw [flatN_cons, List.getElem?_append_right (by rw [ndL_len]; omega), ← this, ndL_len]
    congr 1
    omega
theorem ndL_one (x : Nd) (h : HdN) : ∀ u ∈ ndL x h, u.oneCell' = true := by
 intro u hu
 simp at hu
 rcases hu with rfl | rfl | rfl | rfl | rfl | rfl | rfl <;> rfl
def RowB (A : Option Addr) (b : Nat) : Prop := ∃ a, A = some a ∧ a.block = b
structure GNd (S : Nat → Prop) (n base : Nat) (w : World) (A : Option Addr) (c : Nat) (acc : List Nd) (hs : List HdN) : Prop where
 len : hs.length = acc.length
 own : w.ownsRow base 46 7 (.slice A acc.length c) acc.length (flatN acc hs)
 at_ : ∀ (k : Nat) (x : Nd) (h : HdN), acc[k]? = some x → hs[k]? = some h → NdH (fun b => S b ∨ RowB A b) n w h x
section
variable {S : Nat → Prop} {n m base : Nat} {w w' : World} {A : Option Addr} {c : Nat} {acc : List Nd} {hs : List HdN} {x : Nd} {h : HdN}
theorem GNd.nil (S : Nat → Prop) (n base : Nat) (w : World) : GNd S n base w none 0 [] [] := ⟨rfl, World.ownsRow_nil _ _ _ _, fun k x h e => by simp at e⟩
theorem GNd.mono (g : GNd S n base w A c acc hs) (hl : n ≤ m) : GNd S m base w A c acc hs := ⟨g.len, g.own, fun k x h e1 e2 => (g.at_ k x h e1 e2).mono hl⟩
theorem GNd.fr {Z : List Nat} (g : GNd S n base w A c acc hs) (hf : Fr Z w w') (hS : ∀ k ∈ Z, S k) (hZ : ∀ k ∈ Z, k < base) : GNd S n base w' A c acc hs :=
 ⟨g.len, own_fr g.own hf fun k hk hm => by
  have := (g.own.lt k hk).1
  have := hZ k hm
  omega, fun k x h e1 e2 => (g.at_ k x h e1 e2).fr hf (fun k hk => .inl (hS k hk))⟩
theorem GNd.fr0 (g : GNd S n base w A c acc hs) (hf : Fr [] w w') : GNd S n base w' A c acc hs := g.fr hf (by simp) (by simp)
theorem GNd.ln (g : GNd S n base w A c acc hs) (hS : ∀ k, base ≤ k → ¬ S k) : LN S (n + 1) w A c acc := by
 have hle : acc.length ≤ c ∧ c ≤ maxLen := by
  rcases g.own.2 with ⟨he, hz⟩ | ⟨gb, cap, cur, he, _, _, hnc, hcm, _⟩
  ·injection he with e1 e2 e3
   subst e3
   exact ⟨by omega, by unfold maxLen; omega⟩
  ·injection he with e1 e2 e3
   subst e3
   exact ⟨hnc, hcm⟩
 refine ⟨hle.1, hle.2, fun h0 => ?_⟩
 obtain ⟨gb, rfl, hb1, hb2⟩ := own_some g.own h0
 have hc := Cells.of_own g.own
 obtain ⟨b, off, hA, hcell⟩ := hc (by rw [flatN_len _ _ g.len]; omega)
 injection hA with hA
 injection hA with e1 e2
 subst e1 e2
 refine ⟨gb, 0, rfl, hS gb hb1, fun k y hk => ?_⟩
 have hkl : k < hs.length := by
  rw [g.len]
  exact (List.getElem?_eq_some_iff.1 hk).1
 have hh := List.getElem?_eq_getElem hkl
 have hx := (g.at_ k y _ hk hh).sub (S' := S) fun k _ h => .inl h
 have hj : ∀ j, j < 7 → ∀ u, (ndL y hs[k])[j]? = some u → w.cell? ⟨gb, 0 + (k * 7 + j), none⟩ = some u := fun j hj u hu => hcell (k * 7 + j) u (by rw [flatN_at _ _ k j y _ hk hh hj]; exact hu)
 refine ⟨hs[k], ⟨?_, ?_, ?_, ?_, ?_, ?_, ?_⟩, hx.ok, hx.subs, hx.params, hx.body, hx.els⟩
 ·simpa using hj 0 (by omega) _ rfl
 ·have := hj 1 (by omega) _ rfl; rw [← Nat.add_assoc] at this; exact this
 ·have := hj 2 (by omega) _ rfl; rw [← Nat.add_assoc] at this; exact this
 ·have := hj 3 (by omega) _ rfl; rw [← Nat.add_assoc] at this; exact this
 ·have := hj 4 (by omega) _ rfl; rw [← Nat.add_assoc] at this; exact this
 ·have := hj 5 (by omega) _ rfl; rw [← Nat.add_assoc] at this; exact this
 ·have := hj 6 (by omega) _ rfl; rw [← Nat.add_assoc] at this; exact this
theorem GNd.app {b0 : Nat} (g : GNd S n base w A c acc hs) (hx : NdH (fun b => b < b0) n w h x) (hb0 : ∀ k, RowB A k → k < b0) (hSb : ∀ k, S k → k < b0) (hbw : b0 ≤ w.heap.size) {A' : Option Addr} {c' : Nat} (hg : w.grownBy w' (Value.slice A acc.length c).ownBlock)
    (ho : w'.ownsRow base 46 7 (.slice A' (acc.length + 1) c') (acc.length + 1) (flatN acc hs ++ ndL x h))
    (hat : (Value.slice A' (acc.length + 1) c').ownBlock = (Value.slice A acc.length c).ownBlock ∨ (Value.slice A' (acc.length + 1) c').ownBlock = some w.heap.size) : GNd S n base w' A' c' (acc ++ [x]) (hs ++ [h]) := by
  have hR : ∀ k, k < w.heap.size → ¬ RowB A k → ¬ RowB A' k := by
    intro k hk h1 ⟨a, ha, hab⟩
    subst ha hab
    rcases hat with h2 | h2
    · cases A with
      | none => simp [Value.ownBlock] at h2
      | some a' =>
        simp [Value.ownBlock] at h2
        exact h1 ⟨a', rfl, h2.symm⟩
    · simp [Value.ownBlock] at h2
      omega
  have hcell : ∀ (p : Addr) (u : Value), ¬ RowB A p.block → w.cell? p = some u → w'.cell? p = some u := by
    intro p u hp hc
    refine (World.cell?_of_block (hg.block p.block (World.block_lt_of_cell? w p hc) fun e => ?_)).trans hc
    cases A with
    | none => simp [Value.ownBlock] at e
    | some a' => simp [Value.ownBlock] at e; exact hp ⟨a', rfl, e.symm⟩
  have hk : ∀ y hd, NdH (fun b => S b ∨ RowB A b) n w hd y → NdH (fun b => S b ∨ RowB A' b) n w' hd y := fun y hd hy =>
    hy.imp (Nat.le_refl _) (fun k hk h1 h2 => h2.elim (fun h3 => h1 (.inl h3)) (fun h3 => hR k hk (fun h4 => h1 (.inr h4)) h3)) (fun p u hp hc => hcell p u (fun h3 => hp (.inr h3)) hc)
  refine ⟨by simp [g.len], ?_, fun k y hd e1 e2 => ?_⟩
  · rw [flatN_app _ _ _ _ g.len, List.length_append]
    exact ho
  · rcases Nat.lt_or_ge k acc.length with h1 | h1
    · rw [List.getElem?_append_left h1] at e1
      rw [List.getElem?_append_left (by rw [g.len]; exact h1)] at e2
      exact hk _ _ (g.at_ k y hd e1 e2)
    · rw [List.getElem?_append_right h1] at e1
      rw [List.getElem?_append_right (by rw [g.len]; exact h1), g.len] at e2
      have hz : k - acc.length = 0 := by
        have := (List.getElem?_eq_some_iff.1 e1).1
        simp at this
        omega
      rw [hz] at e1 e2
      simp at e1 e2
      subst e1 e2
      exact hk _ _ (hx.sub fun k _ h1 => h1.elim (hSb k) (hb0 k))
theorem LN.pos (hl : LN S n w A c acc) : ∃ m, n = m + 1 := by
 cases n with
 | zero => exact absurd hl id
 | succ n => exact ⟨n, rfl⟩
theorem LN.one {g : Nat} {t : TypeId} (hb : Blk w g t (ndCells x h)) (hS : ¬ S g) (hx : NdH S n w h x) : LN S (n + 1) w (some ⟨g, 0, none⟩) 1 [x] :=
  ⟨Nat.le_refl _, by unfold maxLen; simp, fun _ => ⟨g, 0, rfl, hS, fun k y hy => by
    match k, hy with
    | 0, hy =>
      simp at hy
      subst hy
      exact ⟨h, ⟨hb.cell 0 rfl, hb.cell 1 rfl, hb.cell 2 rfl, hb.cell 3 rfl, hb.cell 4 rfl, hb.cell 5 rfl, hb.cell 6 rfl⟩, hx.ok, hx.subs, hx.params, hx.body, hx.els⟩⟩⟩
theorem LN.two {g : Nat} {t : TypeId} {y : Nd} {h' : HdN} (hb : Blk w g t (ndCells x h ++ ndCells y h')) (hS : ¬ S g) (hx : NdH S n w h x) (hy' : NdH S n w h' y) : LN S (n + 1) w (some ⟨g, 0, none⟩) 2 [x, y] :=
  ⟨Nat.le_refl _, by unfold maxLen; simp, fun _ => ⟨g, 0, rfl, hS, fun k z hz => by
    match k, hz with
    | 0, hz =>
      simp at hz
      subst hz
      exact ⟨h, ⟨hb.cell 0 rfl, hb.cell 1 rfl, hb.cell 2 rfl, hb.cell 3 rfl, hb.cell 4 rfl, hb.cell 5 rfl, hb.cell 6 rfl⟩, hx.ok, hx.subs, hx.params, hx.body, hx.els⟩
    | 1, hz =>
      simp at hz
      subst hz
      exact ⟨h', ⟨hb.cell 7 rfl, hb.cell 8 rfl, hb.cell 9 rfl, hb.cell 10 rfl, hb.cell 11 rfl, hb.cell 12 rfl, hb.cell 13 rfl⟩, hy'.ok, hy'.subs, hy'.params, hy'.body, hy'.els⟩⟩⟩
theorem RdS.nil0 {α : Type} (S : Nat → Prop) (w : World) (enc : α → Value) : RdS S w enc none 0 [] := ⟨Rd.nil_ _ _, fun h => by simp at h⟩
theorem NdH.mk_ {k : Int} {t : ByteArray} {num : Int} {subs body els : List Nd} {ps : List ByteArray} (hk : 0 ≤ k ∧ k ≤ 255) (hnum : -9223372036854775808 ≤ num ∧ num ≤ 9223372036854775807)
  (hs : LN S n w h.As h.cs subs) (hp : RdS S w .string h.Ap h.cp ps) (hb : LN S n w h.Ab h.cb body) (he : LN S n w h.Ae h.ce els) : NdH S n w h (.mk k t num subs ps body els) := ⟨⟨hk, hnum⟩, hs, hp, hb, he⟩
theorem NdH.sub_ {k : Int} {t : ByteArray} {subs : List Nd} {As : Option Addr} {cs : Nat} (hk : 0 ≤ k ∧ k ≤ 255) (hs : LN S n w As cs subs) : NdH S n w ⟨As, cs, none, 0, none, 0, none, 0⟩ (.mk k t 0 subs [] [] []) := by
 obtain ⟨m, rfl⟩ := hs.pos
 exact NdH.mk_ (h := ⟨As, cs, none, 0, none, 0, none, 0⟩) hk (by omega) hs (RdS.nil0 _ _ _) (LN.nil0 _ _ _ _) (LN.nil0 _ _ _ _)
theorem NdH.leaf {k : Int} {t : ByteArray} {num : Int} (hk : 0 ≤ k ∧ k ≤ 255) (hnum : -9223372036854775808 ≤ num ∧ num ≤ 9223372036854775807) (S : Nat → Prop) (n : Nat) (w : World) : NdH S (n + 1) w ⟨none, 0, none, 0, none, 0, none, 0⟩ (.mk k t num [] [] [] []) :=
 NdH.mk_ (h := ⟨none, 0, none, 0, none, 0, none, 0⟩) hk hnum (LN.nil0 _ _ _ _) (RdS.nil0 _ _ _) (LN.nil0 _ _ _ _) (LN.nil0 _ _ _ _)
end
section
theorem results_node {fn : Func} {p : Tmp} (h : fn.results = #[.cell p 46]) (tmps : Array Value) (w : World) (g : Nat) {x : Nd} {hd : HdN} (hp : tmps.getD p undef = .pointer (some ⟨g, 0, none⟩)) (hb : Blk w g 46 (ndCells x hd)) :
  (results fn tmps).run Tryz.prog w = .ok (.agg (ndCells x hd)) w := by
 have c0 := hb.cell 0 rfl
 have c1 := hb.cell 1 rfl
 have c2 := hb.cell 2 rfl
 have c3 := hb.cell 3 rfl
 have c4 := hb.cell 4 rfl
 have c5 := hb.cell 5 rfl
 have c6 := hb.cell 6 rfl
 simp only [Array.getD_eq_getD_getElem?] at hp
 simp [results, h, go_sem, hp, c0, c1, c2, c3, c4, c5, c6]
theorem results_node2 {fn : Func} {p t : Tmp} (h : fn.results = #[.cell p 46, .tmp t]) (tmps : Array Value) (w : World) (g : Nat) {x : Nd} {hd : HdN} (hp : tmps.getD p undef = .pointer (some ⟨g, 0, none⟩)) (hb : Blk w g 46 (ndCells x hd)) :
  (results fn tmps).run Tryz.prog w = .ok (.tuple #[.agg (ndCells x hd), tmps.getD t undef]) w := by
 have c0 := hb.cell 0 rfl
 have c1 := hb.cell 1 rfl
 have c2 := hb.cell 2 rfl
 have c3 := hb.cell 3 rfl
 have c4 := hb.cell 4 rfl
 have c5 := hb.cell 5 rfl
 have c6 := hb.cell 6 rfl
 simp only [Array.getD_eq_getD_getElem?] at hp
 simp [results, h, go_sem, hp, c0, c1, c2, c3, c4, c5, c6]
theorem Blk.node {w : World} {g : Nat} {t : TypeId} {x0 x1 x2 x3 x4 x5 x6 : Value} (h : Blk w g t #[x0, x1, x2, x3, x4, x5, x6]) (a0 a1 a2 a3 a4 a5 a6 : Value) :
  Blk (((((((w.setCell ⟨g, 0, none⟩ a0).setCell ⟨g, 1, none⟩ a1).setCell ⟨g, 2, none⟩ a2).setCell ⟨g, 3, none⟩ a3).setCell ⟨g, 4, none⟩ a4).setCell ⟨g, 5, none⟩ a5).setCell ⟨g, 6, none⟩ a6) g t #[a0, a1, a2, a3, a4, a5, a6] := by
 have := ((((((h.set_ 0 a0).set_ 1 a1).set_ 2 a2).set_ 3 a3).set_ 4 a4).set_ 5 a5).set_ 6 a6
 simpa using this
theorem fr_node {S : List Nat} {w w1 : World} (h : Fr S w w1) {g : Nat} (hg : g ∈ S ∨ w.heap.size ≤ g) (a0 a1 a2 a3 a4 a5 a6 : Value) :
  Fr S w (((((((w1.setCell ⟨g, 0, none⟩ a0).setCell ⟨g, 1, none⟩ a1).setCell ⟨g, 2, none⟩ a2).setCell ⟨g, 3, none⟩ a3).setCell ⟨g, 4, none⟩ a4).setCell ⟨g, 5, none⟩ a5).setCell ⟨g, 6, none⟩ a6) :=
 ((((((h.setCell (p := ⟨g, 0, none⟩) hg _).setCell (p := ⟨g, 1, none⟩) hg _).setCell (p := ⟨g, 2, none⟩) hg _).setCell (p := ⟨g, 3, none⟩) hg _).setCell (p := ⟨g, 4, none⟩) hg _).setCell (p := ⟨g, 5, none⟩) hg _).setCell (p := ⟨g, 6, none⟩) hg _
end
end

end Go.Proofs.YtchldahkcpbgcaaGreatDoor
