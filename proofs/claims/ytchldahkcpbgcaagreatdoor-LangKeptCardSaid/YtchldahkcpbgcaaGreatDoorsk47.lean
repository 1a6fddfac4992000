/- Texts of this seat, one behind the other: POpen, COpen. -/
import Derived.Test.YtchldahkcpbgcaaGreatDoorsk22
import Derived.Test.YtchldahkcpbgcaaGreatDoorProg
import Derived.Test.YtchldahkcpbgcaaGreatDoorRows
import Derived.Lib.SmallJoins
import Derived.Deep.SlicePairs
import Derived.Deep.Matrix
import Derived.Deep.Fields
import Derived.ProofKit
import Derived.OpenShut
import Derived.SliceStrings
namespace Go.Proofs.YtchldahkcpbgcaaGreatDoor
set_option linter.unusedVariables false

/- Programs that came in, opened; the sizes that their readings are held to. -/
section
open Go.RowKit Go.ChangeShapes Go.WideShapes Go.Joins Go.Deep
set_option linter.unusedSimpArgs false
theorem list_of {α : Type} {n : Nat} {p : Nat → α → Prop} (h : ∀ i, i < n → ∃ x, p i x) : ∃ L : List α, L.length = n ∧ ∀ i x, L[i]? = some x → p i x := by
 classical
 refine ⟨List.ofFn fun i : Fin n => Classical.choose (h i.1 i.2), by simp, fun i x hx => ?_⟩
 have hi : i < n := by
  have := (List.getElem?_eq_some_iff.1 hx).1
  simpa using this
 have hx : Classical.choose (h i hi) = x := by simpa [List.getElem?_ofFn, hi] using hx
 subst hx
 exact Classical.choose_spec (h i hi)
section
variable {H : Type} {enc : TypeId × Value → H} {W : World} {P : Program} {fuel : Nat} {x : DataW H × List MemPlace}
theorem addr_lit {y : Addr} {i : Nat} {u : Value} (h : W.cell? (y.add i) = some u) (hi : i = 0) : ∃ b off, y = ⟨b, off, none⟩ := by
 obtain ⟨b, off, spot⟩ := y
 subst hi
 have hs : spot = none := by simpa [Addr.add] using World.cell?_spot h
 subst hs
 exact ⟨b, off, rfl⟩
theorem wf_u8' {n : Int} (h : (Lit.int .u8 n).wf = true) : 0 ≤ n ∧ n ≤ 255 := by
 simp [Lit.wf, IntKind.min, IntKind.max, IntKind.signed, IntKind.bits] at h
 exact ⟨h.1, by omega⟩
theorem wf_i64' {n : Int} (h : (Lit.int .i64 n).wf = true) : -9223372036854775808 ≤ n ∧ n ≤ 9223372036854775807 := by
 simp [Lit.wf, IntKind.min, IntKind.max, IntKind.signed, IntKind.bits] at h
 omega
def WB (P : Program) (t : TypeId) (d : DataW H) : Prop := ∀ k ∈ d.weights P t, k ≤ reachBytes
theorem WB.str {t : TypeId} {bs : List UInt8} (h : WB P t (.lit (.string bs) : DataW H)) : bs.length ≤ reachBytes := h _ (by simp [DataW.weights])
theorem weightsAll_mem {e : TypeId} {d : DataW H} : ∀ {l : List (DataW H)}, d ∈ l → ∀ k ∈ d.weights P e, k ∈ DataW.weightsAll P e l
  | [], h, _, _ => by cases h
  | x :: l, h, k, hk => by
    rw [DataW.weightsAll, List.mem_append]
    rcases List.mem_cons.1 h with rfl | h
    · exact .inl hk
    · exact .inr (weightsAll_mem h k hk)
theorem WB.slice {t e : TypeId} {el sp : List (DataW H)} (ht : P.underlying t = some (.slice e)) (h : WB P t (.slice el sp)) : (el.length + sp.length) * P.bytesOf e ≤ reachBytes ∧ ∀ d ∈ el, WB P e d := by
 unfold WB at h
 rw [DataW.weights, ht] at h
 simp only [List.mem_cons, List.mem_append] at h
 exact ⟨h _ (.inl rfl), fun d hd k hk => h k (.inr (.inl (weightsAll_mem hd k hk)))⟩
theorem weightsEach_mem {t : TypeId} {d : DataW H} : ∀ {ts : List TypeId} {l : List (DataW H)} {i : Nat}, ts[i]? = some t → l[i]? = some d → ∀ k ∈ d.weights P t, k ∈ DataW.weightsEach P ts l
  | [], _, i, h, _, _, _ => by simp at h
  | _ :: _, [], i, _, h, _, _ => by simp at h
  | t0 :: ts, d0 :: l, 0, h, h2, k, hk => by
    simp only [List.getElem?_cons_zero, Option.some.injEq] at h h2
    subst h h2
    rw [DataW.weightsEach, List.mem_append]
    exact .inl hk
  | t0 :: ts, d0 :: l, i + 1, h, h2, k, hk => by
    simp only [List.getElem?_cons_succ] at h h2
    rw [DataW.weightsEach, List.mem_append]
    exact .inr (weightsEach_mem h h2 k hk)
theorem WB.struct {t : TypeId} {fs : Array Field} {l : List (DataW H)} (ht : P.underlying t = some (.struct fs)) (h : WB P t (.agg l)) (i : Nat) {f : Field} {d : DataW H} (hf : fs[i]? = some f) (hd : l[i]? = some d) : WB P f.type d := by
 intro k hk
 refine h k ?_
 rw [DataW.weights, ht]
 refine weightsEach_mem (i := i) ?_ hd k hk
 rw [List.getElem?_map, Array.getElem?_toList, hf]
 rfl
theorem open_slW {t e : TypeId} {v : Value} {q : Nat} (ht : P.underlying t = some (.slice e)) (ce : P.cellsOf e = q) (hc : 0 < q) (h : DataW.trod enc P W 0 (fun _ => true) true fuel t [v] = some x) (hw : WB P t x.1) :
  ∃ A len cap n, fuel = n + 1 ∧ v = .slice A len cap ∧ len ≤ cap ∧ cap ≤ maxLen ∧ len * P.bytesOf e ≤ reachBytes ∧ (0 < len → ∃ b off, A = some ⟨b, off, none⟩ ∧ ∀ i, i < len → ∃ cs y, cs.length = q ∧ (∀ j, j < q → W.cell? ⟨b, off + i * q + j, none⟩ = cs[j]?) ∧ DataW.trod enc P W 0 (fun _ => true) true n e cs = some y ∧ WB P e y.1) := by
 subst ce
 rcases DataW.trod_slice ht h with ⟨hcs, _⟩ | ⟨a, len, cap, elems, rest, n, hn, hcs, hx, _, hl, hm, hlen, hel, _⟩
 ·cases fuel with
  | zero => simp [DataW.trod] at h
  | succ n => exact ⟨none, 0, 0, n, rfl, by simpa using hcs, Nat.le_refl _, by unfold maxLen; omega, by rw [Nat.zero_mul]; exact Nat.zero_le _, fun h => absurd h (Nat.lt_irrefl _)⟩
 ·rw [hx] at hw
  obtain ⟨hw1, hw2⟩ := hw.slice ht
  rw [List.length_map, hlen] at hw1
  refine ⟨some a, len, cap, n, hn, by simpa using hcs, hl, hm, Nat.le_trans (Nat.mul_le_mul_right _ (Nat.le_add_right _ _)) hw1, fun h0 => ?_⟩
  have hone : ∀ i, i < len → ∃ cs y, W.cells? 0 (a.add (i * P.cellsOf e)) (P.cellsOf e) = some cs ∧ DataW.trod enc P W 0 (fun _ => true) true n e cs = some y ∧ WB P e y.1 := by
   intro i hi
   have h1 := hel i hi
   rw [List.getElem?_eq_getElem (by omega)] at h1
   obtain ⟨cs, h2, h3⟩ := Option.bind_eq_some_iff.1 h1
   exact ⟨cs, _, h2, h3, hw2 _ (List.mem_map.2 ⟨_, List.getElem_mem _, rfl⟩)⟩
  obtain ⟨cs0, y0, h2, _⟩ := hone 0 h0
  obtain ⟨_, hl0, hc0⟩ := World.cells?_some h2
  have h4 := hc0 0 hc
  rw [add_add, List.getElem?_eq_getElem (by omega)] at h4
  obtain ⟨b, off, rfl⟩ := addr_lit h4 (by simp)
  refine ⟨b, off, rfl, fun i hi => ?_⟩
  obtain ⟨cs, y, h5, h6, h7⟩ := hone i hi
  obtain ⟨_, hl1, hc1⟩ := World.cells?_some h5
  refine ⟨cs, y, hl1, fun j hj => ?_, h6, h7⟩
  have h7 := hc1 j hj
  rw [add_add, Addr.add_lit] at h7
  rw [Nat.add_assoc]
  exact h7
theorem list1 {α : Type} {cs : List α} (h : cs.length = 1) : ∃ a, cs = [a] := by
 match cs, h with
 | [a], _ => exact ⟨a, rfl⟩
theorem list3 {α : Type} {cs : List α} (h : cs.length = 3) : ∃ a b c, cs = [a, b, c] := by
 match cs, h with
 | [a, b, c], _ => exact ⟨a, b, c, rfl⟩
theorem list7 {α : Type} {cs : List α} (h : cs.length = 7) : ∃ a b c d e f g, cs = [a, b, c, d, e, f, g] := by
 match cs, h with
 | [a, b, c, d, e, f, g], _ => exact ⟨a, b, c, d, e, f, g, rfl⟩
abbrev NoS : Nat → Prop := fun _ => False
set_option maxRecDepth 100000 in
theorem strs_open {v : Value} {y : DataW H × List MemPlace} (h : DataW.trod enc Tryz.prog W 0 (fun _ => true) true fuel 44 [v] = some y) (hw : WB Tryz.prog 44 y.1) :
  ∃ (A : Option Addr) (c : Nat) (ps : List ByteArray), v = .slice A ps.length c ∧ RdS NoS W .string A c ps ∧ ps.length ≤ 140737488351232 ∧ ∀ s ∈ ps, s.size ≤ 140737488351232 := by
 obtain ⟨A, len, cap, n, rfl, rfl, hl, hm, hb, hx⟩ := open_slW (q := 1) Tryz.underlying44 (by kernel_rfl) (by omega) h hw
 have hel : ∀ i, i < len → ∃ s : ByteArray, (∀ b off, A = some ⟨b, off, none⟩ → W.cell? ⟨b, off + i, none⟩ = some (.string s)) ∧ s.size ≤ 140737488351232 := by
  intro i hi
  obtain ⟨b, off, rfl, hx1⟩ := hx (by omega)
  obtain ⟨cs, y, hcl, hcc, h2, h3⟩ := hx1 i hi
  obtain ⟨u, rfl⟩ := list1 hcl
  obtain ⟨s, e, ey, _⟩ := DataW.trod_string Tryz.underlying9 h2
  simp at e
  subst e
  rw [ey] at h3
  refine ⟨s, fun b' off' he => ?_, ?_⟩
  ·injection he with he
   injection he with h5 h6
   subst h5 h6
   have := hcc 0 (by omega)
   rw [Nat.mul_one] at this
   exact this
  ·have := h3.str
   rw [Array.length_toList] at this
   exact this
 obtain ⟨L, hLl, hL⟩ := list_of hel
 refine ⟨A, cap, L, by rw [hLl], ⟨⟨by omega, hm, fun h0 => ?_⟩, fun _ _ _ h => h⟩, ?_, fun s hs => ?_⟩
 ·obtain ⟨b, off, hA, _⟩ := hx (by omega)
  exact ⟨b, off, hA, fun k s hk => (hL k s hk).1 b off hA⟩
 ·have : Tryz.prog.bytesOf 9 = 16 := by kernel_rfl
  rw [this] at hb
  unfold reachBytes at hb
  omega
 ·obtain ⟨k, hk, rfl⟩ := List.getElem_of_mem hs
  exact (hL k _ (List.getElem?_eq_getElem hk)).2
set_option maxRecDepth 100000 in
theorem nodes_open (N : Nat) : ∀ (fuel : Nat) (v : Value) (y : DataW H × List MemPlace), fuel ≤ N → DataW.trod enc Tryz.prog W 0 (fun _ => true) true fuel 43 [v] = some y → WB Tryz.prog 43 y.1 →
    ∃ (A : Option Addr) (c : Nat) (l : List Nd), v = .slice A l.length c ∧ LN NoS (N + 1) W A c l ∧ tmL l := by
  induction N using Nat.strongRecOn with
  | ind N ih =>
    intro fuel v y hf h hw
    obtain ⟨A, len, cap, n, rfl, rfl, hl, hm, hb, hx⟩ := open_slW (q := 7) Tryz.underlying43 (by kernel_rfl) (by omega) h hw
    have hel : ∀ i, i < len → ∃ x : Nd, (∃ h : HdN, (∀ b off, A = some ⟨b, off, none⟩ → NdAt W b (off + i * 7) x h) ∧ NdOk x ∧ LN NoS N W h.As h.cs x.subs ∧ RdS NoS W .string h.Ap h.cp x.params ∧ LN NoS N W h.Ab h.cb x.body ∧ LN NoS N W h.Ae h.ce x.els) ∧ x.tm := by
      intro i hi
      obtain ⟨b, off, rfl, hx1⟩ := hx (by omega)
      obtain ⟨cs, y, hcl, hcc, h2, h3⟩ := hx1 i hi
      obtain ⟨xs, n1, rfl, ey, hsz, hlen, hg⟩ := DataW.trod_struct Tryz.underlying46 h2
      obtain ⟨v0, v1, v2, v3, v4, v5, v6, rfl⟩ := list7 hcl
      rw [ey] at h3
      match xs, hlen with
      | [y0, y1, y2, y3, y4, y5, y6], _ =>
        have hn1 : n1 + 1 ≤ N := by omega
        have g0 : DataW.trod enc Tryz.prog W 0 (fun _ => true) true n1 42 [v0] = some y0 := hg 0 _ rfl
        have g1 : DataW.trod enc Tryz.prog W 0 (fun _ => true) true n1 9 [v1] = some y1 := hg 1 _ rfl
        have g2 : DataW.trod enc Tryz.prog W 0 (fun _ => true) true n1 2 [v2] = some y2 := hg 2 _ rfl
        have g3 : DataW.trod enc Tryz.prog W 0 (fun _ => true) true n1 43 [v3] = some y3 := hg 3 _ rfl
        have g4 : DataW.trod enc Tryz.prog W 0 (fun _ => true) true n1 44 [v4] = some y4 := hg 4 _ rfl
        have g5 : DataW.trod enc Tryz.prog W 0 (fun _ => true) true n1 43 [v5] = some y5 := hg 5 _ rfl
        have g6 : DataW.trod enc Tryz.prog W 0 (fun _ => true) true n1 43 [v6] = some y6 := hg 6 _ rfl
        have u1 : WB Tryz.prog 9 y1.1 := h3.struct Tryz.underlying46 1 (d := y1.1) rfl rfl
        have u3 : WB Tryz.prog 43 y3.1 := h3.struct Tryz.underlying46 3 (d := y3.1) rfl rfl
        have u4 : WB Tryz.prog 44 y4.1 := h3.struct Tryz.underlying46 4 (d := y4.1) rfl rfl
        have u5 : WB Tryz.prog 43 y5.1 := h3.struct Tryz.underlying46 5 (d := y5.1) rfl rfl
        have u6 : WB Tryz.prog 43 y6.1 := h3.struct Tryz.underlying46 6 (d := y6.1) rfl rfl
        obtain ⟨zk, e0, _, w0⟩ := DataW.trod_int Tryz.underlying42 g0
        obtain ⟨tx, e1, ey1, _⟩ := DataW.trod_string Tryz.underlying9 g1
        obtain ⟨zn, e2, _, w2⟩ := DataW.trod_int Tryz.underlying2 g2
        simp at e0 e1 e2
        subst e0 e1 e2
        rw [ey1] at u1
        have htx : tx.size ≤ 140737488351232 := by
          have := u1.str
          rw [Array.length_toList] at this
          exact this
        obtain ⟨m, rfl⟩ : ∃ m, N = m + 1 := ⟨N - 1, by omega⟩
        obtain ⟨As, cs3, s, rfl, hs1, hs2⟩ := ih m (by omega) n1 v3 y3 (by omega) g3 u3
        obtain ⟨Ap, cp, ps, rfl, hp1, hp2, hp3⟩ := strs_open g4 u4
        obtain ⟨Ab, cb, bd, rfl, hb1, hb2⟩ := ih m (by omega) n1 v5 y5 (by omega) g5 u5
        obtain ⟨Ae, ce, el, rfl, he1, he2⟩ := ih m (by omega) n1 v6 y6 (by omega) g6 u6
        refine ⟨.mk zk tx zn s ps bd el, ⟨⟨As, cs3, Ap, cp, Ab, cb, Ae, ce⟩, fun b' off' he => ?_, ⟨wf_u8' w0, wf_i64' w2⟩, hs1, hp1, hb1, he1⟩, ?_⟩
        · injection he with he
          injection he with h5 h6
          subst h5 h6
          exact ⟨hcc 0 (by omega), hcc 1 (by omega), hcc 2 (by omega), hcc 3 (by omega), hcc 4 (by omega), hcc 5 (by omega), hcc 6 (by omega)⟩
        · rw [Nd.tm]
          exact ⟨⟨htx, hp2, hp3⟩, hs2, hb2, he2⟩
    obtain ⟨L, hLl, hL⟩ := list_of hel
    refine ⟨A, cap, L, by rw [hLl], ⟨by omega, hm, fun h0 => ?_⟩, tmL_iff.2 fun x hx => ?_⟩
    · obtain ⟨b, off, hA, _⟩ := hx (by omega)
      refine ⟨b, off, hA, id, fun k x hk => ?_⟩
      obtain ⟨⟨hd, h1, h2⟩, _⟩ := hL k x hk
      exact ⟨hd, h1 b off hA, h2⟩
    · obtain ⟨k, hk, rfl⟩ := List.getElem_of_mem hx
      exact (hL k _ (List.getElem?_eq_getElem hk)).2
set_option maxRecDepth 100000 in
theorem funcs_open {v : Value} {y : DataW H × List MemPlace} (h : DataW.trod enc Tryz.prog W 0 (fun _ => true) true fuel 23 [v] = some y) (hw : WB Tryz.prog 23 y.1) :
    ∃ (A : Option Addr) (c : Nat) (fs : List Fu), v = .slice A fs.length c ∧ RF NoS fuel W A c fs ∧ tmF fs ∧ fs.length ≤ 140737488351232 := by
  obtain ⟨A, len, cap, n, rfl, rfl, hl, hm, hb, hx⟩ := open_slW (q := 3) Tryz.underlying23 (by kernel_rfl) (by omega) h hw
  have hel : ∀ i, i < len → ∃ f : Fu, (∃ Ap cp Ab cb, (∀ b off, A = some ⟨b, off, none⟩ → W.cell? ⟨b, off + i * 3, none⟩ = some (.string f.name) ∧ W.cell? ⟨b, off + i * 3 + 1, none⟩ = some (.slice Ap f.params.length cp) ∧ W.cell? ⟨b, off + i * 3 + 2, none⟩ = some (.slice Ab f.body.length cb)) ∧ RdS NoS W .string Ap cp f.params ∧ LN NoS (n + 1) W Ab cb f.body) ∧
      ((f.name.size ≤ 140737488351232 ∧ f.params.length ≤ 140737488351232 ∧ ∀ s ∈ f.params, s.size ≤ 140737488351232) ∧ tmL f.body) := by
    intro i hi
    obtain ⟨b, off, rfl, hx1⟩ := hx (by omega)
    obtain ⟨cs, y, hcl, hcc, h2, h3⟩ := hx1 i hi
    obtain ⟨xs, n1, rfl, ey, hsz, hlen, hg⟩ := DataW.trod_struct Tryz.underlying81 h2
    obtain ⟨v0, v1, v2, rfl⟩ := list3 hcl
    rw [ey] at h3
    match xs, hlen with
    | [y0, y1, y2], _ =>
      have g0 : DataW.trod enc Tryz.prog W 0 (fun _ => true) true n1 9 [v0] = some y0 := hg 0 _ rfl
      have g1 : DataW.trod enc Tryz.prog W 0 (fun _ => true) true n1 44 [v1] = some y1 := hg 1 _ rfl
      have g2 : DataW.trod enc Tryz.prog W 0 (fun _ => true) true n1 43 [v2] = some y2 := hg 2 _ rfl
      have u0 : WB Tryz.prog 9 y0.1 := h3.struct Tryz.underlying81 0 (d := y0.1) rfl rfl
      have u1 : WB Tryz.prog 44 y1.1 := h3.struct Tryz.underlying81 1 (d := y1.1) rfl rfl
      have u2 : WB Tryz.prog 43 y2.1 := h3.struct Tryz.underlying81 2 (d := y2.1) rfl rfl
      obtain ⟨tx, e0, ey0, _⟩ := DataW.trod_string Tryz.underlying9 g0
      simp at e0
      subst e0
      rw [ey0] at u0
      have htx : tx.size ≤ 140737488351232 := by
        have := u0.str
        rw [Array.length_toList] at this
        exact this
      obtain ⟨Ap, cp, ps, rfl, hp1, hp2, hp3⟩ := strs_open g1 u1
      obtain ⟨Ab, cb, bd, rfl, hb1, hb2⟩ := nodes_open (n1 + 1) n1 v2 y2 (by omega) g2 u2
      refine ⟨⟨tx, ps, bd⟩, ⟨Ap, cp, Ab, cb, fun b' off' he => ?_, hp1, hb1⟩, ⟨htx, hp2, hp3⟩, hb2⟩
      injection he with he
      injection he with h5 h6
      subst h5 h6
      exact ⟨hcc 0 (by omega), hcc 1 (by omega), hcc 2 (by omega)⟩
  obtain ⟨L, hLl, hL⟩ := list_of hel
  refine ⟨A, cap, L, by rw [hLl], ⟨by omega, hm, fun h0 => ?_⟩, fun f hf => ?_, ?_⟩
  · obtain ⟨b, off, hA, _⟩ := hx (by omega)
    refine ⟨b, off, hA, id, fun k f hk => ?_⟩
    obtain ⟨⟨Ap, cp, Ab, cb, h1, h2, h3⟩, _⟩ := hL k f hk
    obtain ⟨h4, h5, h6⟩ := h1 b off hA
    exact ⟨Ap, cp, Ab, cb, h4, h5, h6, h2, h3⟩
  · obtain ⟨k, hk, rfl⟩ := List.getElem_of_mem hf
    exact (hL k _ (List.getElem?_eq_getElem hk)).2
  · have : Tryz.prog.bytesOf 81 = 64 := by kernel_rfl
    rw [this] at hb
    unfold reachBytes at hb
    omega
set_option maxRecDepth 100000 in
theorem prog_open {v : Value} {d : DataW H} {p : List MemPlace} {b0 : Nat} (hv : Value.okWide Tryz.prog W .any b0 25 v) (h : DataW.Trod enc Tryz.prog W 0 (fun _ => true) true 25 v d p) (hw : WB Tryz.prog 25 d) :
    ∃ (A : Option Addr) (c n : Nat) (fs : List Fu), v = .agg #[.slice A fs.length c] ∧ RF NoS n W A c fs ∧ tmF fs ∧ fs.length ≤ 140737488351232 := by
  obtain ⟨cs, rfl, hsz⟩ := okWide_struct Tryz.underlying25 hv
  obtain ⟨fuel, hf⟩ := h
  obtain ⟨xs, n1, rfl, ey, _, hlen, hg⟩ := DataW.trod_struct Tryz.underlying25 hf
  obtain ⟨l⟩ := cs
  have hsz : l.length = 1 := hsz
  obtain ⟨v0, rfl⟩ := list1 hsz
  match xs, hlen with
  | [y0], _ =>
    have g0 : DataW.trod enc Tryz.prog W 0 (fun _ => true) true n1 23 [v0] = some y0 := hg 0 _ rfl
    have ey : d = .agg [y0.1] := by simpa using congrArg Prod.fst ey
    rw [ey] at hw
    have u0 : WB Tryz.prog 23 y0.1 := hw.struct Tryz.underlying25 0 (d := y0.1) rfl rfl
    obtain ⟨A, c, fs, rfl, h1, h2, h3⟩ := funcs_open g0 u0
    exact ⟨A, c, n1, fs, rfl, h1, h2, h3⟩
end
end

/- A change that came in, opened. -/
section
open Go.RowKit Go.ChangeShapes Go.WideShapes Go.Joins Go.Deep
set_option linter.unusedSimpArgs false
section
variable {H : Type} {enc : TypeId × Value → H} {W : World} {fuel : Nat}
set_option maxRecDepth 100000 in
theorem bools_open {v : Value} {y : DataW H × List MemPlace} (h : DataW.trod enc Tryz.prog W 0 (fun _ => true) true fuel 50 [v] = some y) (hw : WB Tryz.prog 50 y.1) :
  ∃ (A : Option Addr) (c : Nat) (ps : List Bool), v = .slice A ps.length c ∧ RdS NoS W .bool A c ps ∧ ps.length ≤ 140737488355328 := by
 obtain ⟨A, len, cap, n, rfl, rfl, hl, hm, hb, hx⟩ := open_slW (q := 1) Tryz.underlying50 (by kernel_rfl) (by omega) h hw
 have hel : ∀ i, i < len → ∃ s : Bool, (∀ b off, A = some ⟨b, off, none⟩ → W.cell? ⟨b, off + i, none⟩ = some (.bool s)) := by
  intro i hi
  obtain ⟨b, off, rfl, hx1⟩ := hx (by omega)
  obtain ⟨cs, y, hcl, hcc, h2, h3⟩ := hx1 i hi
  obtain ⟨u, rfl⟩ := list1 hcl
  obtain ⟨s, e, _⟩ := DataW.trod_bool Tryz.underlying4 h2
  simp at e
  subst e
  refine ⟨s, fun b' off' he => ?_⟩
  injection he with he
  injection he with h5 h6
  subst h5 h6
  have := hcc 0 (by omega)
  rw [Nat.mul_one] at this
  exact this
 obtain ⟨L, hLl, hL⟩ := list_of hel
 refine ⟨A, cap, L, by rw [hLl], ⟨⟨by omega, hm, fun h0 => ?_⟩, fun _ _ _ h => h⟩, ?_⟩
 ·obtain ⟨b, off, hA, _⟩ := hx (by omega)
  exact ⟨b, off, hA, fun k s hk => hL k s hk b off hA⟩
 ·have : Tryz.prog.bytesOf 4 = 1 := by kernel_rfl
  rw [this] at hb
  unfold reachBytes at hb
  omega
set_option maxRecDepth 100000 in
theorem change_open {v : Value} {d : DataW H} {p : List MemPlace} {b0 : Nat} (hv : Value.okWide Tryz.prog W .any b0 52 v) (h : DataW.Trod enc Tryz.prog W 0 (fun _ => true) true 52 v d p) (hw : WB Tryz.prog 52 d) :
    ∃ (z : Int) (A : Option Addr) (c n : Nat) (wt : List Nd) (B : Option Addr) (e : Nat) (kp : List Bool), v = .agg #[.int .i64 z, .slice A wt.length c, .slice B kp.length e] ∧ LN NoS n W A c wt ∧ tmL wt ∧ RdS NoS W .bool B e kp ∧ kp.length ≤ 140737488355328 := by
  obtain ⟨cs, rfl, hsz⟩ := okWide_struct Tryz.underlying52 hv
  obtain ⟨fuel, hf⟩ := h
  obtain ⟨xs, n1, rfl, ey, _, hlen, hg⟩ := DataW.trod_struct Tryz.underlying52 hf
  obtain ⟨l⟩ := cs
  have hsz : l.length = 3 := hsz
  obtain ⟨v0, v1, v2, rfl⟩ := list3 hsz
  match xs, hlen with
  | [y0, y1, y2], _ =>
    have g0 : DataW.trod enc Tryz.prog W 0 (fun _ => true) true n1 3 [v0] = some y0 := hg 0 _ rfl
    have g1 : DataW.trod enc Tryz.prog W 0 (fun _ => true) true n1 43 [v1] = some y1 := hg 1 _ rfl
    have g2 : DataW.trod enc Tryz.prog W 0 (fun _ => true) true n1 50 [v2] = some y2 := hg 2 _ rfl
    have ey : d = .agg [y0.1, y1.1, y2.1] := by simpa using congrArg Prod.fst ey
    rw [ey] at hw
    have u1 : WB Tryz.prog 43 y1.1 := hw.struct Tryz.underlying52 1 (d := y1.1) rfl rfl
    have u2 : WB Tryz.prog 50 y2.1 := hw.struct Tryz.underlying52 2 (d := y2.1) rfl rfl
    obtain ⟨z, e0, _, w0⟩ := DataW.trod_int Tryz.underlying3 g0
    simp at e0
    subst e0
    obtain ⟨A, c, wt, rfl, hw1, hw2⟩ := nodes_open n1 n1 v1 y1 (Nat.le_refl _) g1 u1
    obtain ⟨B, e, kp, rfl, hk1, hk2⟩ := bools_open g2 u2
    exact ⟨z, A, c, _, wt, B, e, kp, rfl, hw1, hw2, hk1, hk2⟩
end
end

end Go.Proofs.YtchldahkcpbgcaaGreatDoor
