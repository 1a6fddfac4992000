/- Texts of this seat, one behind the other: Orc. -/
import Derived.Test.YtippadnbngcjlaaGreatDoorh15
import Derived.Test.YtippadnbngcjlaaGreatDoorh139
namespace Go.Proofs.YtippadnbngcjlaaGreatDoor
set_option linter.unusedVariables false

/- An oracle that came in, opened. -/
section
open Go.RowKit Go.ChangeShapes Go.WideShapes Go.Joins Go.Deep
section
variable {H : Type} {enc : TypeId × Value → H} {W : World} {P : Program}
theorem open_agg4 {t : TypeId} {f0 f1 f2 f3 : Field} {v : Value} {d : DataW H} {p : List MemPlace} {b0 : Nat} (hs : P.underlying t = some (.struct #[f0, f1, f2, f3])) (hone : oneCellFields P #[f0, f1, f2, f3] = true) (hC : P.cellsOf t = 4)
    (hv : Value.okWide P W .any b0 t v) (h : DataW.Trod enc P W 0 (fun _ => true) true t v d p) :
    ∃ (v0 v1 v2 v3 : Value) (y0 y1 y2 y3 : DataW H × List MemPlace) (n : Nat), v = .agg #[v0, v1, v2, v3] ∧ DataW.trod enc P W 0 (fun _ => true) true n f0.type [v0] = some y0 ∧ DataW.trod enc P W 0 (fun _ => true) true n f1.type [v1] = some y1 ∧
      DataW.trod enc P W 0 (fun _ => true) true n f2.type [v2] = some y2 ∧ DataW.trod enc P W 0 (fun _ => true) true n f3.type [v3] = some y3 := by
  obtain ⟨cs, rfl, hsz⟩ := okWide_struct hs hv
  obtain ⟨l⟩ := cs
  match l, hsz.trans hC with
  | [c0, c1, c2, c3], _ =>
    obtain ⟨fuel, hf⟩ := h
    obtain ⟨xs, n, _, hx, _, hlen, hg⟩ := DataW.trod_struct hs hf
    obtain ⟨o0, k0⟩ := hone_of hone 0 f0 rfl
    obtain ⟨o1, k1⟩ := hone_of hone 1 f1 rfl
    obtain ⟨o2, k2⟩ := hone_of hone 2 f2 rfl
    obtain ⟨o3, k3⟩ := hone_of hone 3 f3 rfl
    match xs, hlen with
    | [y0, y1, y2, y3], _ =>
      exact ⟨c0, c1, c2, c3, y0, y1, y2, y3, n, rfl, by simpa [Value.cells, o0, k0] using hg 0 f0 rfl, by simpa [Value.cells, o1, k1] using hg 1 f1 rfl, by simpa [Value.cells, o2, k2] using hg 2 f2 rfl, by simpa [Value.cells, o3, k3] using hg 3 f3 rfl⟩
theorem slice_of_trod {t e : TypeId} {n : Nat} {v : Value} {y : DataW H × List MemPlace} (ht : P.underlying t = some (.slice e)) (ce : P.cellsOf e = 1) (h : DataW.trod enc P W 0 (fun _ => true) true n t [v] = some y) : ∃ A l c, v = .slice A l c := by
 rcases open_slice1 ht ce h with ⟨hcs, _⟩ | ⟨y, l, c, m, n, V, D, Pl, hcs, _⟩
 ·simp at hcs; exact ⟨_, _, _, hcs⟩
 ·simp at hcs; exact ⟨_, _, _, hcs⟩
set_option maxRecDepth 100000 in
theorem orc_of_trod {v : Value} {d : DataW H} {p : List MemPlace} {b0 : Nat} (hv : Value.okWide Tryz.prog W .any b0 31 v) (h : DataW.Trod enc Tryz.prog W 0 (fun _ => true) true 31 v d p) :
  ∃ (u : Value) (o : Orc), v = u ∧ OrcIs W u o := by
 obtain ⟨v0, v1, v2, v3, y0, y1, y2, y3, n, rfl, h0, h1, h2, h3⟩ := open_agg4 Tryz.underlying31 (by kernel_rfl) (by kernel_rfl) hv h
 obtain ⟨A, l, c, rfl⟩ := slice_of_trod Tryz.underlying28 (by kernel_rfl) h0
 obtain ⟨B, m, e, rfl⟩ := slice_of_trod Tryz.underlying28 (by kernel_rfl) h1
 obtain ⟨L, rfl, hr, _⟩ := rss_of_trod Tryz.underlying28 Tryz.underlying53 Tryz.underlying3 (by kernel_rfl) (by kernel_rfl) h0
 obtain ⟨K, rfl, hk, _⟩ := rss_of_trod Tryz.underlying28 Tryz.underlying53 Tryz.underlying3 (by kernel_rfl) (by kernel_rfl) h1
 obtain ⟨s, e2, _, w2⟩ := DataW.trod_int Tryz.underlying29 h2
 obtain ⟨z, e3, _, w3⟩ := DataW.trod_int Tryz.underlying5 h3
 simp at e2 e3
 subst e2 e3
 exact ⟨_, ⟨L, K, s, z⟩, rfl, A, c, B, e, rfl, hr, hk, wf_u64 w2, wf_u8 w3⟩
end
end

end Go.Proofs.YtippadnbngcjlaaGreatDoor
