/- Texts of this seat, one behind the other: Open. -/
import Derived.Test.YtjpbmbonccenfaaDoort22
import Derived.Test.YtjpbmbonccenfaaDoort24
import Derived.Lib.SmallJoins
import Derived.Deep.SlicePairs
import Derived.Deep.Matrix
import Derived.Deep.Fields
/- Arguments that came in, opened to lists. -/
namespace Go.Proofs.YtjpbmbonccenfaaDoor
open Go.RowKit Go.ChangeShapes Go.WideShapes Go.Joins Go.Deep
set_option linter.unusedVariables false

section
variable {H : Type} {enc : TypeId × Value → H} {W : World} {P : Program} {fuel : Nat} {a : Option Addr} {len cap : Nat} {x : DataW H × List MemPlace}
theorem ints_of_trod {k : IntKind} {t e : TypeId} (ht : P.underlying t = some (.slice e)) (he : P.underlying e = some (.int k)) (ce : P.cellsOf e = 1)
    (h : DataW.trod enc P W 0 (fun _ => true) true fuel t [.slice a len cap] = some x) : ∃ xs : List Int, xs.length = len ∧ Rd W (.int k) a cap xs ∧ ∀ n ∈ xs, (Lit.int k n).wf = true := by
  rcases open_ints ht he ce h with ⟨hcs, _⟩ | ⟨y, l, c, zs, hcs, _, hl, hm, hz, _, hcell, hwz⟩
  · simp at hcs
    obtain ⟨rfl, rfl, rfl⟩ := hcs
    exact ⟨[], rfl, Rd.nil_ _ _, by simp⟩
  · simp at hcs
    obtain ⟨rfl, rfl, rfl⟩ := hcs
    exact IsRow.rd (.inr ⟨_, rfl, hl, hm, by simpa using hz, hcell, hwz⟩)
theorem addr_lit {y : Addr} {i : Nat} {u : Value} (h : W.cell? (y.add i) = some u) (hi : i = 0) : ∃ b off, y = ⟨b, off, none⟩ := by
  obtain ⟨b, off, spot⟩ := y
  subst hi
  have hs : spot = none := by simpa [Addr.add] using World.cell?_spot h
  subst hs
  exact ⟨b, off, rfl⟩
theorem bools_of_trod {t e : TypeId} (ht : P.underlying t = some (.slice e)) (he : P.underlying e = some .bool) (ce : P.cellsOf e = 1)
    (h : DataW.trod enc P W 0 (fun _ => true) true fuel t [.slice a len cap] = some x) : ∃ xs : List Bool, xs.length = len ∧ Rd W .bool a cap xs := by
  rcases open_slice1 ht ce h with ⟨hcs, _⟩ | ⟨y, l, c, m, n, V, D, Pl, hcs, _, hl, hm, hmm, _, hx⟩
  · simp at hcs
    obtain ⟨rfl, rfl, rfl⟩ := hcs
    exact ⟨[], rfl, Rd.nil_ _ _⟩
  · simp at hcs
    obtain ⟨rfl, rfl, rfl⟩ := hcs
    simp only [if_true] at hmm
    subst hmm
    have hv : ∀ i, i < m → ∃ b : Bool, V i = .bool b := fun i hi => by
      obtain ⟨b, e1, _⟩ := DataW.trod_bool he (hx i hi).2
      exact ⟨b, by simpa using e1⟩
    let f : Nat → Bool := fun i => match V i with | .bool b => b | _ => false
    refine ⟨(List.range len).map f, by simp, by simpa using hl, hm, fun h0 => ?_⟩
    simp at h0
    obtain ⟨b, off, rfl⟩ := addr_lit (hx 0 (by omega)).1 (by omega)
    refine ⟨b, off, rfl, fun i z hz => ?_⟩
    have hi : i < len := by
      have := (List.getElem?_eq_some_iff.1 hz).1
      simpa using this
    have h1 := (hx i (by omega)).1
    rw [Addr.add_lit] at h1
    rw [h1]
    obtain ⟨bb, hb⟩ := hv i (by omega)
    simp [hi, f, hb] at hz
    rw [hb, hz]
theorem picks_of_trod (h : DataW.trod enc Tryd.prog W 0 (fun _ => true) true fuel 47 [.slice a len cap] = some x) : ∃ ps : List Pk, ps.length = len ∧ Rp W a cap ps ∧ ∀ p ∈ ps, (Lit.int .i64 p.1).wf = true ∧ (Lit.int .i64 p.2).wf = true := by
  rcases open_slice_pairs Tryd.underlying47 Tryd.underlying115 (by kernel_rfl) rfl rfl (by kernel_rfl) (by kernel_rfl) h with ⟨hcs, _⟩ | ⟨y, l, c, m, n, V0, V1, D0, D1, P0, P1, hcs, _, hl, hm, hmm, _, hx⟩
  · simp at hcs
    obtain ⟨rfl, rfl, rfl⟩ := hcs
    exact ⟨[], rfl, Rp.nil_ _, by simp⟩
  · simp at hcs
    obtain ⟨rfl, rfl, rfl⟩ := hcs
    simp only [if_true] at hmm
    subst hmm
    let g : Value → Int := fun v => match v with | .int _ n => n | _ => 0
    have hv0 : ∀ i, i < m → V0 i = .int .i64 (g (V0 i)) ∧ (Lit.int .i64 (g (V0 i))).wf = true := fun i hi => by
      obtain ⟨z, e1, _, e2⟩ := DataW.trod_int Tryd.underlying3 (hx i hi).2.2.1
      simp at e1
      rw [e1]
      exact ⟨rfl, e2⟩
    have hv1 : ∀ i, i < m → V1 i = .int .i64 (g (V1 i)) ∧ (Lit.int .i64 (g (V1 i))).wf = true := fun i hi => by
      obtain ⟨z, e1, _, e2⟩ := DataW.trod_int Tryd.underlying3 (hx i hi).2.2.2
      simp at e1
      rw [e1]
      exact ⟨rfl, e2⟩
    refine ⟨(List.range len).map fun i => (g (V0 i), g (V1 i)), by simp, ⟨by simpa using hl, hm, fun h0 => ?_⟩, ?_⟩
    · simp at h0
      obtain ⟨b, off, rfl⟩ := addr_lit (hx 0 (by omega)).1 (by omega)
      refine ⟨b, off, rfl, fun i z hz => ?_⟩
      have hi : i < len := by
        have := (List.getElem?_eq_some_iff.1 hz).1
        simpa using this
      have h1 := (hx i (by omega)).1
      have h2 := (hx i (by omega)).2.1
      rw [Addr.add_lit] at h1 h2
      simp [hi] at hz
      subst hz
      rw [h1, ← Nat.add_assoc] at *
      exact ⟨congrArg some (hv0 i (by omega)).1, h2.trans (congrArg some (hv1 i (by omega)).1)⟩
    · intro p hp
      simp only [List.mem_map, List.mem_range] at hp
      obtain ⟨i, hi, rfl⟩ := hp
      exact ⟨(hv0 i (by omega)).2, (hv1 i (by omega)).2⟩
theorem rss_of_trod {t e q : TypeId} (ht : P.underlying t = some (.slice e)) (he : P.underlying e = some (.slice q)) (hq : P.underlying q = some (.int .i64)) (ce : P.cellsOf e = 1) (cq : P.cellsOf q = 1)
    (h : DataW.trod enc P W 0 (fun _ => true) true fuel t [.slice a len cap] = some x) : ∃ L : List (List Int), L.length = len ∧ Rss W a cap L ∧ ∀ l ∈ L, ∀ n ∈ l, (Lit.int .i64 n).wf = true := by
  rcases open_int_rows ht he hq ce cq h with ⟨hcs, _⟩ | ⟨y, l, c, A, L, C, Z, hcs, _, hl, hm, _, hx⟩
  · simp at hcs
    obtain ⟨rfl, rfl, rfl⟩ := hcs
    exact ⟨[], rfl, ⟨by simp, by unfold maxLen; omega, by simp⟩, by simp⟩
  · simp at hcs
    obtain ⟨rfl, rfl, rfl⟩ := hcs
    have hrow : ∀ r, r < cap → Rd W (.int .i64) (A r) (C r) ((Z r).take (L r)) ∧ ((Z r).take (L r)).length = L r := fun r hr => by
      obtain ⟨h1, h2, h3, h4, h5, h6, h7⟩ := hx r hr
      have hlen : ((Z r).take (L r)).length = L r := by simp; omega
      refine ⟨⟨by omega, h3, fun h0 => ?_⟩, hlen⟩
      cases hA : A r with
      | none => have := h6 hA; omega
      | some y' =>
        obtain ⟨_, h8⟩ := h7 y' hA
        obtain ⟨b, off, rfl⟩ := addr_lit (h8 0 (by omega)) rfl
        refine ⟨b, off, rfl, fun k z hz => ?_⟩
        have hk : k < L r := by
          have := (List.getElem?_eq_some_iff.1 hz).1
          omega
        have h9 := h8 k (by omega)
        rw [Addr.add_lit] at h9
        rw [h9]
        rw [List.getElem?_take, if_pos hk] at hz
        simp [hz]
    refine ⟨(List.range len).map fun r => (Z r).take (L r), by simp, ⟨by simpa using hl, hm, fun h0 => ?_⟩, ?_⟩
    · simp at h0
      obtain ⟨b, off, rfl⟩ := addr_lit (hx 0 (by omega)).1 (by omega)
      refine ⟨b, off, rfl, fun k z hz => ?_⟩
      have hk : k < len := by
        have := (List.getElem?_eq_some_iff.1 hz).1
        simpa using this
      simp [hk] at hz
      subst hz
      have h1 := (hx k (by omega)).1
      rw [Addr.add_lit] at h1
      refine ⟨A k, C k, ?_, (hrow k (by omega)).1⟩
      rw [(hrow k (by omega)).2]
      exact h1
    · intro l hl' n hn
      simp only [List.mem_map, List.mem_range] at hl'
      obtain ⟨i, hi, rfl⟩ := hl'
      exact (hx i (by omega)).2.2.2.2.1 n (List.mem_of_mem_take hn)
theorem open_agg1 {t : TypeId} {f0 : Field} {v : Value} {d : DataW H} {p : List MemPlace} {b0 : Nat} (hs : P.underlying t = some (.struct #[f0])) (hone : oneCellFields P #[f0] = true) (hC : P.cellsOf t = 1)
    (hv : Value.okWide P W .any b0 t v) (h : DataW.Trod enc P W 0 (fun _ => true) true t v d p) :
    ∃ (v0 : Value) (y0 : DataW H × List MemPlace) (n : Nat), v = .agg #[v0] ∧ DataW.trod enc P W 0 (fun _ => true) true n f0.type [v0] = some y0 := by
  obtain ⟨cs, rfl, hsz⟩ := okWide_struct hs hv
  obtain ⟨l⟩ := cs
  match l, hsz.trans hC with
  | [c0], _ =>
    obtain ⟨fuel, hf⟩ := h
    obtain ⟨xs, n, _, hx, _, hlen, hg⟩ := DataW.trod_struct hs hf
    obtain ⟨o0, k0⟩ := hone_of hone 0 f0 rfl
    match xs, hlen with
    | [y0], _ => exact ⟨c0, y0, n, rfl, by simpa [Value.cells, o0, k0] using hg 0 f0 rfl⟩
set_option maxRecDepth 100000 in
theorem hist_of_trod {v : Value} {d : DataW H} {p : List MemPlace} {b0 : Nat} (hv : Value.okWide Tryd.prog W .any b0 71 v) (h : DataW.Trod enc Tryd.prog W 0 (fun _ => true) true 71 v d p) :
    ∃ A c L, v = .agg #[.slice A (L : List (List Int)).length c] ∧ Rss W A c L := by
  obtain ⟨v0, y0, n, rfl, h0⟩ := open_agg1 Tryd.underlying71 (by kernel_rfl) (by kernel_rfl) hv h
  obtain ⟨A, l, c, rfl⟩ : ∃ A l c, v0 = .slice A l c := by
    obtain ⟨fuel, hf⟩ : ∃ fuel, DataW.trod enc Tryd.prog W 0 (fun _ => true) true fuel 24 [v0] = some y0 := ⟨n, h0⟩
    rcases open_slice1 Tryd.underlying24 (by kernel_rfl) hf with ⟨hcs, _⟩ | ⟨y, l, c, m, n, V, D, Pl, hcs, _⟩
    · simp at hcs; exact ⟨_, _, _, hcs⟩
    · simp at hcs; exact ⟨_, _, _, hcs⟩
  obtain ⟨L, rfl, hr, _⟩ := rss_of_trod Tryd.underlying24 Tryd.underlying22 Tryd.underlying3 (by kernel_rfl) (by kernel_rfl) h0
  exact ⟨A, c, L, rfl, hr⟩
end
end Go.Proofs.YtjpbmbonccenfaaDoor
