/- Texts of this seat, one behind the other: Open, TOpen. -/
import Derived.Test.YtippadnbngcjlaaGreatDoorh12
import Derived.Test.YtippadnbngcjlaaGreatDoorh14
import Derived.Lib.SmallJoins
import Derived.Deep.SlicePairs
import Derived.Deep.Matrix
import Derived.Deep.Fields
import Derived.Test.YtippadnbngcjlaaGreatDoorh11
import Derived.Test.YtippadnbngcjlaaGreatDoorh13
namespace Go.Proofs.YtippadnbngcjlaaGreatDoor
set_option linter.unusedVariables false

/- Arguments that came in, opened to lists. -/
section
open Go.RowKit Go.ChangeShapes Go.WideShapes Go.Joins Go.Deep
section
variable {H : Type} {enc : TypeId × Value → H} {W : World} {P : Program} {fuel : Nat} {a : Option Addr} {len cap : Nat} {x : DataW H × List MemPlace}
theorem ints_of_trod {k : IntKind} {t e : TypeId} (ht : P.underlying t = some (.slice e)) (he : P.underlying e = some (.int k)) (ce : P.cellsOf e = 1)
  (h : DataW.trod enc P W 0 (fun _ => true) true fuel t [.slice a len cap] = some x) : ∃ xs : List Int, xs.length = len ∧ Rd W (.int k) a cap xs ∧ ∀ n ∈ xs, (Lit.int k n).wf = true := by
 rcases open_ints ht he ce h with ⟨hcs, _⟩ | ⟨y, l, c, zs, hcs, _, hl, hm, hz, _, hcell, hwz⟩
 ·simp at hcs
  obtain ⟨rfl, rfl, rfl⟩ := hcs
  exact ⟨[], rfl, Rd.nil_ _ _, by simp⟩
 ·simp at hcs
  obtain ⟨rfl, rfl, rfl⟩ := hcs
  exact IsRow.rd (.inr ⟨_, rfl, hl, hm, by simpa using hz, hcell, hwz⟩)
theorem addr_lit {y : Addr} {i : Nat} {u : Value} (h : W.cell? (y.add i) = some u) (hi : i = 0) : ∃ b off, y = ⟨b, off, none⟩ := by
 obtain ⟨b, off, spot⟩ := y
 subst hi
 have hs : spot = none := by simpa [Addr.add] using World.cell?_spot h
 subst hs
 exact ⟨b, off, rfl⟩
theorem rss_of_trod {t e q : TypeId} (ht : P.underlying t = some (.slice e)) (he : P.underlying e = some (.slice q)) (hq : P.underlying q = some (.int .i64)) (ce : P.cellsOf e = 1) (cq : P.cellsOf q = 1)
    (h : DataW.trod enc P W 0 (fun _ => true) true fuel t [.slice a len cap] = some x) : ∃ L : List (List Int), L.length = len ∧ Rss W a cap L ∧ ∀ l ∈ L, ∀ n ∈ l, (Lit.int .i64 n).wf = true := by
  rcases open_int_rows ht he hq ce cq h with ⟨hcs, _⟩ | ⟨y, l, c, A, L, C, Z, hcs, _, hl, hm, _, hx⟩
  · simp at hcs
    obtain ⟨rfl, rfl, rfl⟩ := hcs
    exact ⟨[], rfl, ⟨by simp, by unfold maxLen; omega, by simp⟩, by simp⟩
  · simp at hcs
    obtain ⟨rfl, rfl, rfl⟩ := hcs
    have hrow : ∀ r, r < cap → Rd W (.int .i64) (A r) (C r) ((Z r).take (L r)) ∧ ((Z r).take (L r)).length = L r := fun r hr => by
      obtain ⟨h1, h2, h3, h4, h5, h6, h7⟩ := hx r hr
      have hlen : ((Z r).take (L r)).length = L r := by simp; omega
      refine ⟨⟨by omega, h3, fun h0 => ?_⟩, hlen⟩
      cases hA : A r with
      | none => have := h6 hA; omega
      | some y' =>
        obtain ⟨_, h8⟩ := h7 y' hA
        obtain ⟨b, off, rfl⟩ := addr_lit (h8 0 (by omega)) rfl
        refine ⟨b, off, rfl, fun k z hz => ?_⟩
        have hk : k < L r := by
          have := (List.getElem?_eq_some_iff.1 hz).1
          omega
        have h9 := h8 k (by omega)
        rw [Addr.add_lit] at h9
        rw [h9]
        rw [List.getElem?_take, if_pos hk] at hz
        simp [hz]
    refine ⟨(List.range len).map fun r => (Z r).take (L r), by simp, ⟨by simpa using hl, hm, fun h0 => ?_⟩, ?_⟩
    · simp at h0
      obtain ⟨b, off, rfl⟩ := addr_lit (hx 0 (by omega)).1 (by omega)
      refine ⟨b, off, rfl, fun k z hz => ?_⟩
      have hk : k < len := by
        have := (List.getElem?_eq_some_iff.1 hz).1
        simpa using this
      simp [hk] at hz
      subst hz
      have h1 := (hx k (by omega)).1
      rw [Addr.add_lit] at h1
      refine ⟨A k, C k, ?_, (hrow k (by omega)).1⟩
      rw [(hrow k (by omega)).2]
      exact h1
    · intro l hl' n hn
      simp only [List.mem_map, List.mem_range] at hl'
      obtain ⟨i, hi, rfl⟩ := hl'
      exact (hx i (by omega)).2.2.2.2.1 n (List.mem_of_mem_take hn)
theorem open_agg1 {t : TypeId} {f0 : Field} {v : Value} {d : DataW H} {p : List MemPlace} {b0 : Nat} (hs : P.underlying t = some (.struct #[f0])) (hone : oneCellFields P #[f0] = true) (hC : P.cellsOf t = 1)
    (hv : Value.okWide P W .any b0 t v) (h : DataW.Trod enc P W 0 (fun _ => true) true t v d p) :
    ∃ (v0 : Value) (y0 : DataW H × List MemPlace) (n : Nat), v = .agg #[v0] ∧ DataW.trod enc P W 0 (fun _ => true) true n f0.type [v0] = some y0 := by
  obtain ⟨cs, rfl, hsz⟩ := okWide_struct hs hv
  obtain ⟨l⟩ := cs
  match l, hsz.trans hC with
  | [c0], _ =>
    obtain ⟨fuel, hf⟩ := h
    obtain ⟨xs, n, _, hx, _, hlen, hg⟩ := DataW.trod_struct hs hf
    obtain ⟨o0, k0⟩ := hone_of hone 0 f0 rfl
    match xs, hlen with
    | [y0], _ => exact ⟨c0, y0, n, rfl, by simpa [Value.cells, o0, k0] using hg 0 f0 rfl⟩
end
end

/- Grammars and trees that came in, opened. -/
section
open Go.RowKit Go.ChangeShapes Go.WideShapes Go.Joins Go.Deep
theorem list_of {α : Type} {n : Nat} {p : Nat → α → Prop} (h : ∀ i, i < n → ∃ x, p i x) : ∃ L : List α, L.length = n ∧ ∀ i x, L[i]? = some x → p i x := by
 classical
 refine ⟨List.ofFn fun i : Fin n => Classical.choose (h i.1 i.2), by simp, fun i x hx => ?_⟩
 have hi : i < n := by
  have := (List.getElem?_eq_some_iff.1 hx).1
  simpa using this
 have hx : Classical.choose (h i hi) = x := by simpa [List.getElem?_ofFn, hi] using hx
 subst hx
 exact Classical.choose_spec (h i hi)
section
variable {H : Type} {enc : TypeId × Value → H} {W : World} {P : Program} {fuel : Nat} {x : DataW H × List MemPlace}
theorem open_sl {t e : TypeId} {v : Value} {q : Nat} (ht : P.underlying t = some (.slice e)) (ce : P.cellsOf e = q) (hc : 0 < q) (h : DataW.trod enc P W 0 (fun _ => true) true fuel t [v] = some x) :
  ∃ A len cap n, fuel = n + 1 ∧ v = .slice A len cap ∧ len ≤ cap ∧ cap ≤ maxLen ∧ (0 < len → ∃ b off, A = some ⟨b, off, none⟩ ∧ ∀ i, i < len → ∃ cs y, cs.length = q ∧ (∀ j, j < q → W.cell? ⟨b, off + i * q + j, none⟩ = cs[j]?) ∧ DataW.trod enc P W 0 (fun _ => true) true n e cs = some y) := by
 subst ce
 rcases DataW.trod_slice ht h with ⟨hcs, _⟩ | ⟨a, len, cap, elems, rest, n, hn, hcs, _, _, hl, hm, hlen, hel, _⟩
 ·cases fuel with
  | zero => simp [DataW.trod] at h
  | succ n => exact ⟨none, 0, 0, n, rfl, by simpa using hcs, Nat.le_refl _, by unfold maxLen; omega, fun h => absurd h (Nat.lt_irrefl _)⟩
 ·refine ⟨some a, len, cap, n, hn, by simpa using hcs, hl, hm, fun h0 => ?_⟩
  have hone : ∀ i, i < len → ∃ cs y, W.cells? 0 (a.add (i * P.cellsOf e)) (P.cellsOf e) = some cs ∧ DataW.trod enc P W 0 (fun _ => true) true n e cs = some y := by
   intro i hi
   have h1 := hel i hi
   rw [List.getElem?_eq_getElem (by omega)] at h1
   obtain ⟨cs, h2, h3⟩ := Option.bind_eq_some_iff.1 h1
   exact ⟨cs, _, h2, h3⟩
  obtain ⟨cs0, y0, h2, _⟩ := hone 0 h0
  obtain ⟨_, hl0, hc0⟩ := World.cells?_some h2
  have h4 := hc0 0 hc
  rw [add_add, List.getElem?_eq_getElem (by omega)] at h4
  obtain ⟨b, off, rfl⟩ := addr_lit h4 (by simp)
  refine ⟨b, off, rfl, fun i hi => ?_⟩
  obtain ⟨cs, y, h5, h6⟩ := hone i hi
  obtain ⟨_, hl1, hc1⟩ := World.cells?_some h5
  refine ⟨cs, y, hl1, fun j hj => ?_, h6⟩
  have h7 := hc1 j hj
  rw [add_add, Addr.add_lit] at h7
  rw [Nat.add_assoc]
  exact h7
theorem list1 {α : Type} {cs : List α} (h : cs.length = 1) : ∃ a, cs = [a] := by
 match cs, h with
 | [a], _ => exact ⟨a, rfl⟩
theorem list3 {α : Type} {cs : List α} (h : cs.length = 3) : ∃ a b c, cs = [a, b, c] := by
 match cs, h with
 | [a, b, c], _ => exact ⟨a, b, c, rfl⟩
theorem list4 {α : Type} {cs : List α} (h : cs.length = 4) : ∃ a b c d, cs = [a, b, c, d] := by
 match cs, h with
 | [a, b, c, d], _ => exact ⟨a, b, c, d, rfl⟩
set_option maxRecDepth 100000 in
theorem tree_cells (N : Nat) : ∀ (fuel : Nat) (cs : List Value) (x : DataW H × List MemPlace), fuel ≤ N → DataW.trod enc Tryz.prog W 0 (fun _ => true) true fuel 27 cs = some x →
    ∃ (t : T) (A : Option Addr) (c : Nat), cs = [.int .i64 t.kind, .string t.text, .slice A t.slots.length c] ∧ RH (fun _ => False) (N + 1) W A c t := by
  induction N with
  | zero =>
    intro fuel cs x hf h
    obtain rfl : fuel = 0 := by omega
    simp [DataW.trod] at h
  | succ N ih =>
    intro fuel cs x hf h
    obtain ⟨xs, n1, rfl, _, hsz, hlen, hg⟩ := DataW.trod_struct Tryz.underlying27 h
    obtain ⟨v0, v1, v2, rfl⟩ := list3 (hsz.trans (by kernel_rfl))
    match xs, hlen with
    | [y0, y1, y2], _ =>
      have g0 : DataW.trod enc Tryz.prog W 0 (fun _ => true) true n1 3 [v0] = some y0 := hg 0 _ rfl
      have g1 : DataW.trod enc Tryz.prog W 0 (fun _ => true) true n1 9 [v1] = some y1 := hg 1 _ rfl
      have g2 : DataW.trod enc Tryz.prog W 0 (fun _ => true) true n1 25 [v2] = some y2 := hg 2 _ rfl
      obtain ⟨z, e0, _, _⟩ := DataW.trod_int Tryz.underlying3 g0
      obtain ⟨tx, e1, _, _⟩ := DataW.trod_string Tryz.underlying9 g1
      simp at e0 e1
      subst e0 e1
      obtain ⟨A, len, cap, n2, rfl, rfl, hl, hm, hx⟩ := open_sl (q := 1) Tryz.underlying25 (by kernel_rfl) (by omega) g2
      have hrow : ∀ i, i < len → ∃ r : List T, (∀ b off, A = some ⟨b, off, none⟩ → ∃ A' c', W.cell? ⟨b, off + i, none⟩ = some (.slice A' r.length c') ∧ RowB (fun _ => False) (fun A c x => RH (fun _ => False) (N + 1) W A c x) W A' c' r) := by
        intro i hi
        obtain ⟨b, off, rfl, hx1⟩ := hx (by omega)
        obtain ⟨cs, y, hcl, hcc, h2⟩ := hx1 i hi
        obtain ⟨u, rfl⟩ := list1 hcl
        have hc0 := hcc 0 (by omega)
        obtain ⟨A', len', cap', n3, rfl, rfl, hl', hm', hx'⟩ := open_sl (q := 3) Tryz.underlying59 (by kernel_rfl) (by omega) h2
        have hel : ∀ k, k < len' → ∃ t : T, ∀ b off, A' = some ⟨b, off, none⟩ → W.cell? ⟨b, off + k * 3, none⟩ = some (.int .i64 t.kind) ∧ W.cell? ⟨b, off + k * 3 + 1, none⟩ = some (.string t.text) ∧ ∃ A2 c2, W.cell? ⟨b, off + k * 3 + 2, none⟩ = some (.slice A2 t.slots.length c2) ∧ RH (fun _ => False) (N + 1) W A2 c2 t := by
          intro k hk
          obtain ⟨b', off', rfl, hx2⟩ := hx' (by omega)
          obtain ⟨cs, y, hcl, hcc, h3⟩ := hx2 k hk
          obtain ⟨t, A2, c2, rfl, hRt⟩ := ih n3 cs y (by omega) h3
          refine ⟨t, fun b off he => ?_⟩
          injection he with he
          injection he with h5 h6
          subst h5 h6
          exact ⟨hcc 0 (by omega), hcc 1 (by omega), A2, c2, hcc 2 (by omega), hRt⟩
        obtain ⟨r, hrl, hr⟩ := list_of hel
        refine ⟨r, fun b2 off2 he => ?_⟩
        injection he with he
        injection he with h5 h6
        subst h5 h6
        refine ⟨A', cap', ?_, by omega, hm', fun h0 => ?_⟩
        · rw [hrl]
          rw [Nat.mul_one] at hc0
          exact hc0
        · have hx3 := hx' (by omega)
          obtain ⟨b', off', hA', _⟩ := hx3
          exact ⟨b', off', hA', id, fun k x hk => hr k x hk b' off' hA'⟩
      obtain ⟨L, hLl, hL⟩ := list_of hrow
      refine ⟨.mk z tx L, A, cap, by rw [← hLl]; rfl, ?_⟩
      refine show RowsB _ _ W A cap L from ⟨by omega, hm, fun h0 => ?_⟩
      obtain ⟨b, off, hA, _⟩ := hx (by omega)
      exact ⟨b, off, hA, id, fun i r hi => hL i r hi b off hA⟩
set_option maxRecDepth 100000 in
theorem slots_of_trod {v : Value} (h : DataW.trod enc Tryz.prog W 0 (fun _ => true) true fuel 49 [v] = some x) : ∃ (A : Option Addr) (c : Nat) (l : List Sl), v = .slice A l.length c ∧ RSl W A c l := by
  obtain ⟨A, len, cap, n, _, rfl, hl, hm, hx⟩ := open_sl (q := 3) Tryz.underlying49 (by kernel_rfl) (by omega) h
  have hel : ∀ k, k < len → ∃ s : Sl, ∀ b off, A = some ⟨b, off, none⟩ → (0 ≤ s.many ∧ s.many ≤ 255) ∧ W.cell? ⟨b, off + k * 3, none⟩ = some (.int .u8 s.many) ∧
      (∃ A1 c1, W.cell? ⟨b, off + k * 3 + 1, none⟩ = some (.slice A1 s.kinds.length c1) ∧ Rd W (.int .i64) A1 c1 s.kinds) ∧ W.cell? ⟨b, off + k * 3 + 2, none⟩ = some (.string s.between) := by
    intro k hk
    obtain ⟨b', off', rfl, hx1⟩ := hx (by omega)
    obtain ⟨cs, y, hcl, hcc, h3⟩ := hx1 k hk
    obtain ⟨xs, n1, _, _, hsz, hlen, hg⟩ := DataW.trod_struct Tryz.underlying55 h3
    obtain ⟨v0, v1, v2, rfl⟩ := list3 hcl
    match xs, hlen with
    | [y0, y1, y2], _ =>
      have g0 : DataW.trod enc Tryz.prog W 0 (fun _ => true) true n1 52 [v0] = some y0 := hg 0 _ rfl
      have g1 : DataW.trod enc Tryz.prog W 0 (fun _ => true) true n1 53 [v1] = some y1 := hg 1 _ rfl
      have g2 : DataW.trod enc Tryz.prog W 0 (fun _ => true) true n1 9 [v2] = some y2 := hg 2 _ rfl
      obtain ⟨z, e0, _, w0⟩ := DataW.trod_int Tryz.underlying52 g0
      obtain ⟨tx, e2, _, _⟩ := DataW.trod_string Tryz.underlying9 g2
      simp at e0 e2
      subst e0 e2
      obtain ⟨A1, l1, c1, n2, _, rfl, _, _, _⟩ := open_sl (q := 1) Tryz.underlying53 (by kernel_rfl) (by omega) g1
      obtain ⟨ks, rfl, hks, _⟩ := ints_of_trod Tryz.underlying53 Tryz.underlying3 (by kernel_rfl) g1
      refine ⟨⟨z, ks, tx⟩, fun b off he => ?_⟩
      injection he with he
      injection he with h5 h6
      subst h5 h6
      exact ⟨wf_u8 w0, hcc 0 (by omega), ⟨A1, c1, hcc 1 (by omega), hks⟩, hcc 2 (by omega)⟩
  obtain ⟨l, hll, hle⟩ := list_of hel
  refine ⟨A, cap, l, by rw [hll], by omega, hm, fun h0 => ?_⟩
  obtain ⟨b, off, hA, _⟩ := hx (by omega)
  exact ⟨b, off, hA, fun k s hs => hle k s hs b off hA⟩
set_option maxRecDepth 100000 in
theorem rules_of_trod {v : Value} (h : DataW.trod enc Tryz.prog W 0 (fun _ => true) true fuel 22 [v] = some x) : ∃ (A : Option Addr) (c : Nat) (g : List Ru), v = .slice A g.length c ∧ RRu W A c g := by
  obtain ⟨A, len, cap, n, _, rfl, hl, hm, hx⟩ := open_sl (q := 4) Tryz.underlying22 (by kernel_rfl) (by omega) h
  have hel : ∀ k, k < len → ∃ r : Ru, ∀ b off, A = some ⟨b, off, none⟩ → W.cell? ⟨b, off + k * 4, none⟩ = some (.string r.before) ∧ W.cell? ⟨b, off + k * 4 + 1, none⟩ = some (.string r.after) ∧
      W.cell? ⟨b, off + k * 4 + 2, none⟩ = some (.bool r.leaf) ∧ ∃ A1 c1, W.cell? ⟨b, off + k * 4 + 3, none⟩ = some (.slice A1 r.slots.length c1) ∧ RSl W A1 c1 r.slots := by
    intro k hk
    obtain ⟨b', off', rfl, hx1⟩ := hx (by omega)
    obtain ⟨cs, y, hcl, hcc, h3⟩ := hx1 k hk
    obtain ⟨xs, n1, _, _, hsz, hlen, hg⟩ := DataW.trod_struct Tryz.underlying51 h3
    obtain ⟨v0, v1, v2, v3, rfl⟩ := list4 hcl
    match xs, hlen with
    | [y0, y1, y2, y3], _ =>
      have g0 : DataW.trod enc Tryz.prog W 0 (fun _ => true) true n1 9 [v0] = some y0 := hg 0 _ rfl
      have g1 : DataW.trod enc Tryz.prog W 0 (fun _ => true) true n1 9 [v1] = some y1 := hg 1 _ rfl
      have g2 : DataW.trod enc Tryz.prog W 0 (fun _ => true) true n1 4 [v2] = some y2 := hg 2 _ rfl
      have g3 : DataW.trod enc Tryz.prog W 0 (fun _ => true) true n1 49 [v3] = some y3 := hg 3 _ rfl
      obtain ⟨t0, e0, _, _⟩ := DataW.trod_string Tryz.underlying9 g0
      obtain ⟨t1, e1, _, _⟩ := DataW.trod_string Tryz.underlying9 g1
      obtain ⟨lf, e2, _⟩ := DataW.trod_bool Tryz.underlying4 g2
      simp at e0 e1 e2
      subst e0 e1 e2
      obtain ⟨A1, c1, l, rfl, hsl⟩ := slots_of_trod g3
      refine ⟨⟨t0, t1, lf, l⟩, fun b off he => ?_⟩
      injection he with he
      injection he with h5 h6
      subst h5 h6
      exact ⟨hcc 0 (by omega), hcc 1 (by omega), hcc 2 (by omega), A1, c1, hcc 3 (by omega), hsl⟩
  obtain ⟨g, hgl, hle⟩ := list_of hel
  refine ⟨A, cap, g, by rw [hgl], by omega, hm, fun h0 => ?_⟩
  obtain ⟨b, off, hA, _⟩ := hx (by omega)
  exact ⟨b, off, hA, fun k s hs => hle k s hs b off hA⟩
set_option maxRecDepth 100000 in
theorem gram_of_trod {v : Value} {d : DataW H} {p : List MemPlace} {b0 : Nat} (hv : Value.okWide Tryz.prog W .any b0 24 v) (h : DataW.Trod enc Tryz.prog W 0 (fun _ => true) true 24 v d p) :
  ∃ (A : Option Addr) (c : Nat) (g : List Ru), v = .agg #[.slice A g.length c] ∧ RRu W A c g := by
 obtain ⟨v0, y0, n, rfl, h0⟩ := open_agg1 Tryz.underlying24 (by kernel_rfl) (by kernel_rfl) hv h
 obtain ⟨A, c, g, rfl, hg⟩ := rules_of_trod h0
 exact ⟨A, c, g, rfl, hg⟩
set_option maxRecDepth 100000 in
theorem tree_of_trod {v : Value} {d : DataW H} {p : List MemPlace} {b0 : Nat} (hv : Value.okWide Tryz.prog W .any b0 27 v) (h : DataW.Trod enc Tryz.prog W 0 (fun _ => true) true 27 v d p) :
  ∃ (A : Option Addr) (c n : Nat) (t : T), v = .agg (tcells t A c) ∧ RH (fun _ => False) n W A c t := by
 obtain ⟨cs, rfl, hsz⟩ := okWide_struct Tryz.underlying27 hv
 obtain ⟨fuel, hf⟩ := h
 obtain ⟨t, A, c, he, hR⟩ := tree_cells fuel fuel _ _ (Nat.le_refl _) hf
 have he : cs.toList = [.int .i64 t.kind, .string t.text, .slice A t.slots.length c] := he
 refine ⟨A, c, fuel + 1, t, ?_, hR⟩
 obtain ⟨l⟩ := cs
 have he : l = _ := he
 subst he
 rfl
end
end

end Go.Proofs.YtippadnbngcjlaaGreatDoor
