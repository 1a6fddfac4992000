/- Texts of this seat, one behind the other: DifS, Dif2, Dif3. -/
import Derived.Test.YtjpbmbonccenfaaDoorZSurp30
import Derived.Test.YtjpbmbonccenfaaDoorZSurp24
import Derived.Test.YtjpbmbonccenfaaDoorZSurp33
import Derived.Test.YtjpbmbonccenfaaDoorZSurp28
import Derived.Test.YtjpbmbonccenfaaDoorZSurp23
/- Difference of the program: what holds between its steps. -/
namespace Go.Proofs.YtjpbmbonccenfaaDoor
open Go Go.RowKit
set_option linter.unusedVariables false

/-- What the function that run is handed has done: two variables. -/
def DifDo (w1 : World) (s km bp bf h0 h1 : Nat) (ans : List Int) (r : List Int ⊕ (Res × (Nat × Kn))) (e : Ending) (w' : World) : Prop :=
  match r with
  | .inl q => DoAsk w1 s km [bp, bf] (fun W => ∃ p f, CandAt W bp (Out h0 h1) p ∧ CandAt W bf (Out h0 h1) f ∧ p.length ≤ 256 ∧ f.length ≤ 256) q e w'
  | .inr ((er, kept, pass), (u, _)) => DoEnd w1 s km ans [bp, bf] (fun W => ∃ p f, CandAt W bp (Out h0 h1) p ∧ CandAt W bf (Out h0 h1) f ∧ p.length ≤ 256 ∧ f.length ≤ 256 ∧ (er = 0 → f = kept ∧ p = pass)) er u e w'
/-- How the blocks lie. -/
structure DfL (w0 w1 : World) (s km bp bf h0 : Nat) : Prop where
  w01 : Fr [] w0 w1
  p0 : w0.heap.size ≤ bp
  f0 : w0.heap.size ≤ bf
  ne : bp ≠ bf
  p1 : bp < h0
  f1 : bf < h0
  k0 : h0 ≤ km
  s0 : km < s
  h1 : s < w1.heap.size
/-- Between two steps of the function, entered in w1; w0: the world in which the tables were seen. -/
structure DfS (w1 : World) (s km bp bf gb : Nat) (ans : List Int) (ms : List Nat) (A : Option Addr) (ca : Nat) (p : List Int) (B : Option Addr) (cb : Nat) (f : List Int) (g u : Nat) (kn : Kn) (W : World) : Prop where
  fr : Fr [s, km, bp, bf] w1 W
  sk : SK W s km ans u kn
  pb : Blk W bp 22 #[.slice A p.length ca]
  prd : Rd W (.int .i64) A ca p
  pat : 0 < p.length → ∀ a, A = some a → w1.heap.size ≤ a.block ∧ a.block ≠ gb
  fb : Blk W bf 22 #[.slice B f.length cb]
  frd : Rd W (.int .i64) B cb f
  fat : 0 < f.length → ∀ a, B = some a → w1.heap.size ≤ a.block ∧ a.block ≠ gb
  gbb : Blk W gb 3 #[.int .i64 g]
  sbb : Blk W w1.heap.size 91 #[.pointer (some ⟨s, 0, none⟩)]
  gl : w1.heap.size < gb
  marks : ∀ D ∈ ms, w1.heap.size < D ∧ W.heap[D]? = some (.deferred (some []))

section
variable {w0 w1 W W' : World} {s km bp bf gb h0 ca cb g u u' D : Nat} {ans : List Int} {ms : List Nat} {A B : Option Addr} {p f : List Int} {kn kn' : Kn}
theorem DfS.fr0 (L : DfL w0 w1 s km bp bf h0) (h : DfS w1 s km bp bf gb ans ms A ca p B cb f g u kn W) : Fr [] w0 W := by
  have hw := L.w01.size
  obtain ⟨_, l1, l2, l3, l4, l5, l6, l7, l8⟩ := L
  exact ‹Fr [] w0 w1›.trans2 h.fr (by
    intro x hx
    simp only [List.mem_cons, List.not_mem_nil, or_false] at hx
    rcases hx with rfl | rfl | rfl | rfl <;> right <;> omega)
theorem DfS.tab (L : DfL w0 w1 s km bp bf h0) (ht : Tab w0) (h : DfS w1 s km bp bf gb ans ms A ca p B cb f g u kn W) : Tab W := ht.fr (h.fr0 L)
theorem DfS.same {S : List Nat} (L : DfL w0 w1 s km bp bf h0) (h : DfS w1 s km bp bf gb ans ms A ca p B cb f g u kn W) (hf : Fr S W W') (hw : ∀ x ∈ S, w1.heap.size ≤ x) (hg : gb ∉ S) (hs : w1.heap.size ∉ S)
    (hA : 0 < p.length → ∀ a, A = some a → a.block ∉ S) (hB : 0 < f.length → ∀ a, B = some a → a.block ∉ S) (hm : ∀ D ∈ ms, D ∉ S) : DfS w1 s km bp bf gb ans ms A ca p B cb f g u kn W' := by
  obtain ⟨_, l1, l2, l3, l4, l5, l6, l7, l8⟩ := L
  exact ⟨h.fr.trans2 hf fun x hx => .inr (hw x hx), h.sk.fr hf (fun hx => by have := hw _ hx; omega) (fun hx => by have := hw _ hx; omega) (fun x hx => by have := hw x hx; omega),
    h.pb.fr hf (fun hx => by have := hw _ hx; omega), h.prd.fr hf hA, h.pat, h.fb.fr hf (fun hx => by have := hw _ hx; omega), h.frd.fr hf hB, h.fat, h.gbb.fr hf hg, h.sbb.fr hf hs, h.gl, fun D hD => ⟨(h.marks D hD).1, hf.heap (h.marks D hD).2 (hm D hD)⟩⟩
theorem DfS.fr_ (L : DfL w0 w1 s km bp bf h0) (h : DfS w1 s km bp bf gb ans ms A ca p B cb f g u kn W) (hf : Fr [] W W') : DfS w1 s km bp bf gb ans ms A ca p B cb f g u kn W' :=
  h.same L hf (by simp) (by simp) (by simp) (by simp) (by simp) (by simp)
theorem DfS.nc (L : DfL w0 w1 s km bp bf h0) (hD : w1.heap.size ≤ D) (hms : ∀ D' ∈ ms, D' < D) (h : DfS w1 s km bp bf gb ans ms A ca p B cb f g u kn W) (hn : Nc W D) (hf : Fr [D, D + 1] W W') : DfS w1 s km bp bf gb ans ms A ca p B cb f g u kn W' :=
  h.same L hf (by simp; omega) (hn.blk h.gbb) (hn.blk h.sbb) (hn.rd h.prd) (hn.rd h.frd) (fun D' hD' => by have := hms D' hD'; simp; omega)
/-- A question has been answered. -/
theorem DfS.asked (L : DfL w0 w1 s km bp bf h0) (h : DfS w1 s km bp bf gb ans ms A ca p B cb f g u kn W) (hf : Fr [s, km] W W') (hsk : SK W' s km ans u' kn') : DfS w1 s km bp bf gb ans ms A ca p B cb f g u' kn' W' := by
  obtain ⟨_, l1, l2, l3, l4, l5, l6, l7, l8⟩ := L
  have hgl := h.gl
  refine ⟨h.fr.trans (hf.mono (by simp)), hsk, h.pb.fr hf ?_, h.prd.fr hf ?_, h.pat, h.fb.fr hf ?_, h.frd.fr hf ?_, h.fat, h.gbb.fr hf ?_, h.sbb.fr hf ?_, h.gl, fun D hD => ⟨(h.marks D hD).1, hf.heap (h.marks D hD).2 ?_⟩⟩
  · simp; omega
  · intro h0 a ha
    have := (h.pat h0 a ha).1
    simp; omega
  · simp; omega
  · intro h0 a ha
    have := (h.fat h0 a ha).1
    simp; omega
  · simp; omega
  · simp; omega
  · have := (h.marks D hD).1
    simp; omega
theorem DfS.mark (h : DfS w1 s km bp bf gb ans ms A ca p B cb f g u kn W) (hD : w1.heap.size < D) (hd : W.heap[D]? = some (.deferred (some []))) : DfS w1 s km bp bf gb ans (D :: ms) A ca p B cb f g u kn W :=
  ⟨h.fr, h.sk, h.pb, h.prd, h.pat, h.fb, h.frd, h.fat, h.gbb, h.sbb, h.gl, fun D' hD' => by
    rcases List.mem_cons.1 hD' with rfl | h'
    · exact ⟨hD, hd⟩
    · exact h.marks D' h'⟩
theorem DfS.cold (h : DfS w1 s km bp bf gb ans ms A ca p B cb f g u kn W) (hn : Nc W D) : ∀ x ∈ [s, km, bp, bf, gb], x ∉ [D, D + 1] := by
  obtain ⟨A', c', hb, _⟩ := h.sk.srch.ex
  intro x hx
  simp only [List.mem_cons, List.not_mem_nil, or_false] at hx
  rcases hx with rfl | rfl | rfl | rfl | rfl
  · exact hn.blk hb
  · exact hn.mapAt h.sk.map
  · exact hn.blk h.pb
  · exact hn.blk h.fb
  · exact hn.blk h.gbb
theorem DfS.clear {S : List Nat} (h : DfS w1 s km bp bf gb ans ms A ca p B cb f g u kn W) (hn : Nc W D) (hf : Fr S W W') (hS : ∀ x ∈ S, x ∈ [s, km, bp, bf, gb]) : Clear D W W' :=
  ⟨S, hf, fun hm => h.cold hn D (hS D hm) (by simp), fun hm => h.cold hn (D + 1) (hS _ hm) (by simp)⟩
theorem DfS.below (h : DfS w1 s km bp bf gb ans ms A ca p B cb f g u kn W) : ∀ D' ∈ ms, D' < W.heap.size := fun D' hD' => (Array.getElem?_eq_some_iff.1 (h.marks D' hD').2).1
/-- The set that fails is written. -/
theorem DfS.putF1 {C : Option Addr} {cc : Nat} {x : List Int} (L : DfL w0 w1 s km bp bf h0) (h : DfS w1 s km bp bf gb ans ms A ca p B cb f g u kn W) (hr : Rd W (.int .i64) C cc x) (hx : 0 < x.length → ∀ a, C = some a → w1.heap.size ≤ a.block ∧ a.block ≠ gb) :
    DfS w1 s km bp bf gb ans ms A ca p C cc x g u kn (W.setCell ⟨bf, 0, none⟩ (.slice C x.length cc)) := by
  obtain ⟨_, l1, l2, l3, l4, l5, l6, l7, l8⟩ := L
  have hgl := h.gl
  have hf : Fr [bf] W (W.setCell ⟨bf, 0, none⟩ (.slice C x.length cc)) := (Fr.refl _ W).setCell (.inl (by simp)) _
  refine ⟨h.fr.trans2 hf (by simp), h.sk.farS h.fb (by omega) (by omega) _, h.pb.fr hf (by simpa using l3), h.prd.fr hf ?_, h.pat, by simpa using h.fb.set_ 0 _, hr.fr hf ?_, hx, h.gbb.fr hf (by simp only [List.mem_singleton]; omega),
    h.sbb.fr hf (by simp only [List.mem_singleton]; omega), h.gl, fun D hD => ⟨(h.marks D hD).1, hf.heap (h.marks D hD).2 (by have := (h.marks D hD).1; simp only [List.mem_singleton]; omega)⟩⟩
  · intro h0 a ha; have := (h.pat h0 a ha).1; simp only [List.mem_singleton]; omega
  · intro h0 a ha; have := (hx h0 a ha).1; simp only [List.mem_singleton]; omega
/-- The set that passes is written. -/
theorem DfS.putP1 {C : Option Addr} {cc : Nat} {x : List Int} (L : DfL w0 w1 s km bp bf h0) (h : DfS w1 s km bp bf gb ans ms A ca p B cb f g u kn W) (hr : Rd W (.int .i64) C cc x) (hx : 0 < x.length → ∀ a, C = some a → w1.heap.size ≤ a.block ∧ a.block ≠ gb) :
    DfS w1 s km bp bf gb ans ms C cc x B cb f g u kn (W.setCell ⟨bp, 0, none⟩ (.slice C x.length cc)) := by
  obtain ⟨_, l1, l2, l3, l4, l5, l6, l7, l8⟩ := L
  have hgl := h.gl
  have hf : Fr [bp] W (W.setCell ⟨bp, 0, none⟩ (.slice C x.length cc)) := (Fr.refl _ W).setCell (.inl (by simp)) _
  refine ⟨h.fr.trans2 hf (by simp), h.sk.farS h.pb (by omega) (by omega) _, by simpa using h.pb.set_ 0 _, hr.fr hf ?_, hx, h.fb.fr hf (by simpa using l3.symm), h.frd.fr hf ?_, h.fat, h.gbb.fr hf (by simp only [List.mem_singleton]; omega),
    h.sbb.fr hf (by simp only [List.mem_singleton]; omega), h.gl, fun D hD => ⟨(h.marks D hD).1, hf.heap (h.marks D hD).2 (by have := (h.marks D hD).1; simp only [List.mem_singleton]; omega)⟩⟩
  · intro h0 a ha; have := (hx h0 a ha).1; simp only [List.mem_singleton]; omega
  · intro h0 a ha; have := (h.fat h0 a ha).1; simp only [List.mem_singleton]; omega
/-- The granularity is written. -/
theorem DfS.putG {g2 : Nat} (L : DfL w0 w1 s km bp bf h0) (h : DfS w1 s km bp bf gb ans ms A ca p B cb f g u kn W) : DfS w1 s km bp bf gb ans ms A ca p B cb f g2 u kn (W.setCell ⟨gb, 0, none⟩ (.int .i64 g2)) := by
  obtain ⟨_, l1, l2, l3, l4, l5, l6, l7, l8⟩ := L
  have hgl := h.gl
  have hf : Fr [gb] W (W.setCell ⟨gb, 0, none⟩ (.int .i64 g2)) := (Fr.refl _ W).setCell (.inl (by simp)) _
  refine ⟨h.fr.trans2 hf (by simp; omega), h.sk.fr hf (by simp only [List.mem_singleton]; omega) (by simp only [List.mem_singleton]; omega) (by simp only [List.mem_singleton]; omega), h.pb.fr hf (by simp only [List.mem_singleton]; omega), h.prd.fr hf ?_, h.pat, h.fb.fr hf (by simp only [List.mem_singleton]; omega), h.frd.fr hf ?_, h.fat,
    by simpa using h.gbb.set_ 0 _, h.sbb.fr hf (by simp only [List.mem_singleton]; omega), h.gl, fun D hD => ⟨(h.marks D hD).1, hf.heap (h.marks D hD).2 ?_⟩⟩
  · intro h0 a ha; have := (h.pat h0 a ha).2; simpa using this
  · intro h0 a ha; have := (h.fat h0 a ha).2; simpa using this
  · intro hm
    obtain rfl : D = gb := by simpa using hm
    have h1 := (h.marks _ hD).2
    rw [show W.heap[D]? = _ from h.gbb] at h1; cases h1
theorem rd_ndM {α : Type} {enc : α → Value} {xs : List α} {c : Nat} (hm : ∀ D ∈ ms, W.heap[D]? = some (.deferred (some []))) (hr : Rd W enc A c xs) : 0 < xs.length → ∀ a, A = some a → a.block ∉ ms := by
  intro h0 a ha hD
  obtain ⟨b, off, hA, hc⟩ := hr.at0 h0
  rw [hA] at ha
  injection ha with ha
  subst ha
  have h1 := hc 0 xs[0] (by simp)
  have h2 := hm _ hD
  simp [World.cell?] at h1
  simp at h2
  simp [h2] at h1
/-- The function is left. -/
theorem DfS.cands (L : DfL w0 w1 s km bp bf h0) (h : DfS w1 s km bp bf gb ans ms A ca p B cb f g u kn W) (hf : Fr ms W W') : CandAt W' bp (Out h0 w1.heap.size) p ∧ CandAt W' bf (Out h0 w1.heap.size) f ∧ Fr (s :: km :: [bp, bf]) w1 W' ∧ Srch W' s ans u km := by
  obtain ⟨_, l1, l2, l3, l4, l5, l6, l7, l8⟩ := L
  have hmm : ∀ x, x < w1.heap.size → x ∉ ms := fun x hx hm => by have := (h.marks x hm).1; omega
  refine ⟨⟨A, ca, h.pb.fr hf (hmm _ (by omega)), h.prd.fr hf (rd_ndM (fun D hD => (h.marks D hD).2) h.prd), fun h0 a ha => .inr (h.pat h0 a ha).1⟩,
    ⟨B, cb, h.fb.fr hf (hmm _ (by omega)), h.frd.fr hf (rd_ndM (fun D hD => (h.marks D hD).2) h.frd), fun h0 a ha => .inr (h.fat h0 a ha).1⟩, h.fr.trans2 hf fun x hx => .inr (Nat.le_of_lt (h.marks x hx).1), ?_⟩
  exact (h.sk.fr hf (hmm _ (by omega)) (hmm _ (by omega)) (fun x hx => by have := (h.marks x hx).1; omega)).srch
end

/-- A question that is not answered. -/
def DfQ (w1 : World) (s km bp bf gb : Nat) (ans : List Int) (full : List Int ⊕ (Res × (Nat × Kn))) (ms : List Nat) (ch : List PanicEntry) (W : World) : Prop :=
  ∃ A ca p B cb f g u kn, DfS w1 s km bp bf gb ans ms A ca p B cb f g u kn W ∧ p.length ≤ 256 ∧ f.length ≤ 256 ∧ ∃ q C cq, ch = [question (.slice C q.length cq)] ∧ Hid (full = .inl q) ∧ Rd W (.int .i64) C cq q ∧ Nw w1.heap.size C
/-- Between two rounds. -/
def DfO (w1 : World) (s km bp bf gb n : Nat) (ans : List Int) (full : List Int ⊕ (Res × (Nat × Kn))) (ms : List Nat) (t : Nat) (W : World) : Prop :=
  ∃ A ca p B cb f g u kn, DfS w1 s km bp bf gb ans ms A ca p B cb f g u kn W ∧ (2 ≤ g ∧ g ≤ 256) ∧ f.length ≤ 256 ∧ difM p f g < t ∧ Hid (DInv n p f) ∧ Hid (full = (difT t p f g).go (askS ans) (u, kn))
/-- Between two rounds of the scan. -/
def DfI (w1 : World) (s km bp bf gb : Nat) (ans : List Int) (full : List Int ⊕ (Res × (Nat × Kn))) (ms : List Nat) (A : Option Addr) (ca : Nat) (p : List Int) (B : Option Addr) (cb : Nat) (f : List Int) (g : Nat) (E : Option Addr) (ce : Nat) (d : List Int) (D0 N : Nat)
    (fT : List Int → List Int → Nat → Tr (List Int) Int Res) (dT : Tr (List Int) Int Res) (qs : List (List Int)) (k : Nat) (W : World) : Prop :=
  k ≤ N ∧ ∃ u kn, DfS w1 s km bp bf gb ans ms A ca p B cb f g u kn W ∧ Rd W (.int .i64) E ce d ∧ (∀ a, E = some a → w1.heap.size ≤ a.block) ∧ Blk W D0 22 #[.slice E d.length ce] ∧ Blk W (D0 + 1) 3 #[.int .i64 N] ∧ Hid (full = (difScan fT dT p f g (qs.drop k)).go (askS ans) (u, kn))
section
variable {w0 w1 W W' : World} {s km bp bf gb h0 ca cb ce g u u' n t D D0 N k : Nat} {ans : List Int} {ms : List Nat} {A B E : Option Addr} {p f d : List Int} {kn kn' : Kn} {full : List Int ⊕ (Res × (Nat × Kn))} {ch : List PanicEntry}
  {fT : List Int → List Int → Nat → Tr (List Int) Int Res} {dT : Tr (List Int) Int Res} {qs : List (List Int)}
theorem DfI.fr_ (L : DfL w0 w1 s km bp bf h0) (h : DfI w1 s km bp bf gb ans full ms A ca p B cb f g E ce d D0 N fT dT qs k W) (hf : Fr [] W W') : DfI w1 s km bp bf gb ans full ms A ca p B cb f g E ce d D0 N fT dT qs k W' := by
  obtain ⟨h1, u, kn, h2, h3, h4, h5, h6, h7⟩ := h
  exact ⟨h1, u, kn, h2.fr_ L hf, h3.fr0 hf, h4, h5.fr hf (by simp), h6.fr hf (by simp), h7⟩
theorem DfI.nc (L : DfL w0 w1 s km bp bf h0) (hD : w1.heap.size ≤ D) (hms : ∀ D' ∈ ms, D' < D) (h : DfI w1 s km bp bf gb ans full ms A ca p B cb f g E ce d D0 N fT dT qs k W) (hn : Nc W D) (hf : Fr [D, D + 1] W W') : DfI w1 s km bp bf gb ans full ms A ca p B cb f g E ce d D0 N fT dT qs k W' := by
  obtain ⟨h1, u, kn, h2, h3, h4, h5, h6, h7⟩ := h
  exact ⟨h1, u, kn, h2.nc L hD hms hn hf, h3.fr hf (hn.rd h3), h4, h5.fr hf (hn.blk h5), h6.fr hf (hn.blk h6), h7⟩
theorem DfO.nc (L : DfL w0 w1 s km bp bf h0) (hD : w1.heap.size ≤ D) (hms : ∀ D' ∈ ms, D' < D) (h : DfO w1 s km bp bf gb n ans full ms t W) (hn : Nc W D) (hf : Fr [D, D + 1] W W') : DfO w1 s km bp bf gb n ans full ms t W' := by
  obtain ⟨A, ca, p, B, cb, f, g, u, kn, h1, h2⟩ := h
  exact ⟨A, ca, p, B, cb, f, g, u, kn, h1.nc L hD hms hn hf, h2⟩
theorem DfO.mark (h : DfO w1 s km bp bf gb n ans full ms t W) (hD : w1.heap.size < D) (hd : W.heap[D]? = some (.deferred (some []))) : DfO w1 s km bp bf gb n ans full (D :: ms) t W := by
  obtain ⟨A, ca, p, B, cb, f, g, u, kn, h1, h2⟩ := h
  exact ⟨A, ca, p, B, cb, f, g, u, kn, h1.mark hD hd, h2⟩
theorem DfQ.mark (h : DfQ w1 s km bp bf gb ans full ms ch W) (hD : w1.heap.size < D) (hd : W.heap[D]? = some (.deferred (some []))) : DfQ w1 s km bp bf gb ans full (D :: ms) ch W := by
  obtain ⟨A, ca, p, B, cb, f, g, u, kn, h1, h2⟩ := h
  exact ⟨A, ca, p, B, cb, f, g, u, kn, h1.mark hD hd, h2⟩
theorem DfQ.leave (L : DfL w0 w1 s km bp bf h0) (h : DfQ w1 s km bp bf gb ans full ms ch W) (hf : Fr ms W W') : DifDo w1 s km bp bf h0 w1.heap.size ans full (.panicked ch) W' := by
  obtain ⟨A, ca, p, B, cb, f, g, u, kn, h1, hp, hfl, q, C, cq, rfl, hfu, hr, hn⟩ := h
  obtain ⟨c1, c2, c3, _⟩ := h1.cands L hf
  rw [hfu.out]
  exact ⟨C, cq, rfl, hr.fr hf (rd_ndM (fun D hD => (h1.marks D hD).2) hr), c3, hn, p, f, c1, c2, hp, hfl⟩
theorem DfS.leave (L : DfL w0 w1 s km bp bf h0) (h : DfS w1 s km bp bf gb ans ms A ca p B cb f g u kn W) (hp : p.length ≤ 256) (hfl : f.length ≤ 256) (hfu : full = .inr ((0, f, p), (u, kn))) (hf : Fr ms W W') :
    DifDo w1 s km bp bf h0 w1.heap.size ans full (.returned (.int .i64 0)) W' := by
  obtain ⟨c1, c2, c3, c4⟩ := h.cands L hf
  rw [hfu]
  exact ⟨rfl, c4, c3, p, f, c1, c2, hp, hfl, fun _ => ⟨rfl, rfl⟩⟩
theorem DfS.quit {C : Option Addr} {cq : Nat} {q : List Int} (L : DfL w0 w1 s km bp bf h0) (h : DfS w1 s km bp bf gb ans ms A ca p B cb f g u kn W) (hp : p.length ≤ 256) (hfl : f.length ≤ 256) (hr : Rd W (.int .i64) C cq q) (hn : Nw w1.heap.size C) (hfu : Hid (full = .inl q)) :
    DfQ w1 s km bp bf gb ans full ms [question (.slice C q.length cq)] W := ⟨A, ca, p, B, cb, f, g, u, kn, h, hp, hfl, q, C, cq, rfl, hfu, hr, hn⟩
end
theorem difT_pass_len {n : Nat} {p f : List Int} (h : DInv n p f) (hf : f.length ≤ 256) : p.length ≤ 256 := Nat.le_trans h.len.2 hf
end Go.Proofs.YtjpbmbonccenfaaDoor

/- Difference of the program: the function that run is handed. -/
namespace Go.Proofs.YtjpbmbonccenfaaDoor
open Go Go.RowKit
set_option linter.unusedVariables false
set_option linter.unusedSimpArgs false
attribute [local go_sem] Oper.semAt_some

/-- The slots. -/
def DfAct (w1 : World) (bp bf gb : Nat) (f : Nat → Value) (ms : List Nat) : Act := { tmps := #[f 0, f 1, .pointer (some ⟨bf, 0, none⟩), .pointer (some ⟨bp, 0, none⟩), .pointer (some ⟨w1.heap.size, 0, none⟩), f 5, .pointer (some ⟨gb, 0, none⟩), f 7, f 8, f 9, f 10, f 11, f 12, f 13, f 14, f 15, f 16, f 17, f 18, f 19, f 20, f 21, f 22, f 23, f 24, f 25, f 26, f 27, f 28, f 29, f 30, f 31, f 32, f 33, f 34, f 35, f 36, f 37, f 38, f 39, f 40, f 41, f 42, f 43, f 44, f 45, f 46, f 47, f 48, f 49, f 50, f 51, f 52, f 53, f 54, f 55, f 56, f 57, f 58, f 59, f 60, f 61, f 62, f 63, f 64, f 65, f 66, f 67, f 68, f 69, f 70, f 71, f 72, f 73, f 74, f 75, f 76, f 77, f 78, f 79, f 80, f 81, f 82, f 83, f 84, f 85], defers := ms.map markOf }
theorem dfAct_of {w1 : World} {bp bf gb : Nat} {ms : List Nat} {x0 x1 x5 x7 x8 x9 x10 x11 x12 x13 x14 x15 x16 x17 x18 x19 x20 x21 x22 x23 x24 x25 x26 x27 x28 x29 x30 x31 x32 x33 x34 x35 x36 x37 x38 x39 x40 x41 x42 x43 x44 x45 x46 x47 x48 x49 x50 x51 x52 x53 x54 x55 x56 x57 x58 x59 x60 x61 x62 x63 x64 x65 x66 x67 x68 x69 x70 x71 x72 x73 x74 x75 x76 x77 x78 x79 x80 x81 x82 x83 x84 x85 : Value} : ∃ f, ({ tmps := #[x0, x1, .pointer (some ⟨bf, 0, none⟩), .pointer (some ⟨bp, 0, none⟩), .pointer (some ⟨w1.heap.size, 0, none⟩), x5, .pointer (some ⟨gb, 0, none⟩), x7, x8, x9, x10, x11, x12, x13, x14, x15, x16, x17, x18, x19, x20, x21, x22, x23, x24, x25, x26, x27, x28, x29, x30, x31, x32, x33, x34, x35, x36, x37, x38, x39, x40, x41, x42, x43, x44, x45, x46, x47, x48, x49, x50, x51, x52, x53, x54, x55, x56, x57, x58, x59, x60, x61, x62, x63, x64, x65, x66, x67, x68, x69, x70, x71, x72, x73, x74, x75, x76, x77, x78, x79, x80, x81, x82, x83, x84, x85], defers := ms.map markOf } : Act) = DfAct w1 bp bf gb f ms :=
  ⟨fun i => (#[x0, x1, .pointer (some ⟨bf, 0, none⟩), .pointer (some ⟨bp, 0, none⟩), .pointer (some ⟨w1.heap.size, 0, none⟩), x5, .pointer (some ⟨gb, 0, none⟩), x7, x8, x9, x10, x11, x12, x13, x14, x15, x16, x17, x18, x19, x20, x21, x22, x23, x24, x25, x26, x27, x28, x29, x30, x31, x32, x33, x34, x35, x36, x37, x38, x39, x40, x41, x42, x43, x44, x45, x46, x47, x48, x49, x50, x51, x52, x53, x54, x55, x56, x57, x58, x59, x60, x61, x62, x63, x64, x65, x66, x67, x68, x69, x70, x71, x72, x73, x74, x75, x76, x77, x78, x79, x80, x81, x82, x83, x84, x85] : Array Value)[i]?.getD undef, rfl⟩

/-- Behind the loop. -/
def DfMid (w1 : World) (s km bp bf gb : Nat) (ans : List Int) (full : List Int ⊕ (Res × (Nat × Kn))) : Exit → Act → World → Prop
  | .normal, a, W => ∃ f ms A ca p B cb fl g u kn, a = DfAct w1 bp bf gb f ms ∧ ms.Nodup ∧ DfS w1 s km bp bf gb ans ms A ca p B cb fl g u kn W ∧ p.length ≤ 256 ∧ fl.length ≤ 256 ∧ Hid (full = .inr ((0, fl, p), (u, kn)))
  | .panic ch, a, W => ∃ ms, a.defers = ms.map markOf ∧ ms.Nodup ∧ DfQ w1 s km bp bf gb ans full ms ch W
  | _, _, _ => False
theorem DfQ.mk' {w1 : World} {s km bp bf gb : Nat} {ans : List Int} {full : List Int ⊕ (Res × (Nat × Kn))} {ms : List Nat} {ch : List PanicEntry} {W : World} (h : DfQ w1 s km bp bf gb ans full ms ch W) : ∀ D ∈ ms, W.heap[D]? = some (.deferred (some [])) := by
  obtain ⟨A, ca, p, B, cb, f, g, u, kn, h1, _⟩ := h
  exact fun D hD => (h1.marks D hD).2

set_option maxRecDepth 100000 in
set_option maxHeartbeats 12800000 in
theorem difdo_any (s km bn bp bf h0 : Nat) (ans : List Int) (w0 w1 : World) (n : Int) (L : DfL w0 w1 s km bp bf h0) (ht : Tab w0) (hn : n ≤ 256) (hbnh : bn < h0) (hnp : bn ≠ bp) (hnf : bn ≠ bf) (hsk : SK w1 s km ans 0 [])
    (hbn : Blk w1 bn 3 #[.int .i64 n]) (hbp : Blk w1 bp 22 #[.slice none 0 0]) (hbf : Blk w1 bf 22 #[.slice none 0 0]) :
    Calls Tryd.prog 82 #[.pointer (some ⟨s, 0, none⟩), .pointer (some ⟨bn, 0, none⟩), .pointer (some ⟨bf, 0, none⟩), .pointer (some ⟨bp, 0, none⟩)] w1 (DifDo w1 s km bp bf h0 w1.heap.size ans ((differT n.toNat).go (askS ans) (0, []))) := by
  have HUS := Lib.hid (upTo_set n.toNat)
  have HDF := Lib.hid (dif_first n.toNat)
  have HTD : Hid (differT n.toNat = .ask [] fun v => if v = 1 then .ask (upTo n.toNat) fun v => if v = 2 then difT (difM [] (upTo n.toNat) 2 + 1) [] (upTo n.toNat) 2 else .ret (7, [], []) else .ret (7, [], [])) := rfl
  have hul := Lib.hid (upTo_length n.toNat)
  have hm256 : n.toNat ≤ 256 := by omega
  obtain ⟨all, hall⟩ : ∃ all, all = upTo n.toNat := ⟨_, rfl⟩
  rw [← hall] at HUS HTD hul HDF
  have hal : all.length ≤ 256 := by rw [hul.out]; omega
  have hwh : ∀ W, Calls Tryd.prog 73 #[.int .i64 n] W (RetN W 3 all) := fun W => by rw [hall]; exact whole_any n W (by omega)
  clear hall hul
  obtain ⟨full, hful⟩ : ∃ f, (differT n.toNat).go (askS ans) (0, []) = f := ⟨_, rfl⟩
  rw [hful]
  have HFUL := Lib.hid hful
  clear hful
  obtain ⟨m, hm⟩ : ∃ m, n.toNat = m := ⟨_, rfl⟩
  rw [hm] at HUS HDF HTD HFUL hm256
  clear hm
  have l1 := L.p0
  have l2 := L.f0
  have l3 := L.ne
  have l4 := L.p1
  have l5 := L.f1
  have l6 := L.k0
  have l7 := L.s0
  have l8 := L.h1
  have hn' : ∀ W : World, Rd W (.int .i64) none 0 ([] : List Int) := fun W => Rd.nil_ W _
  obtain ⟨W, hW⟩ : ∃ W, W = w1.alloc (.cells #[.pointer (some ⟨s, 0, none⟩)] 91) := ⟨_, rfl⟩
  have hfW : Fr [] w1 W := by rw [hW]; exact (Fr.refl _ _).alloc _
  have hzW : W.heap.size = w1.heap.size + 1 := by rw [hW]; simp
  have hsbW : Blk W w1.heap.size 91 #[.pointer (some ⟨s, 0, none⟩)] := by rw [hW]; exact Blk.new w1 _ _ _ rfl
  have HW := Lib.hid hW.symm
  have HZ := Lib.hid hzW
  clear hW hzW
  have k1 := (hbn.fr hfW (by simp)).cell 0 rfl
  refine calls_of_wpR Tryd.func82 rfl ?_
  simp only [Tryd.ntmps82, List.size_toArray, List.length_cons, List.length_nil, Nat.reduceAdd, Nat.reduceSub, Array.replicate_succ, Array.replicate_zero, List.push_toArray, List.append_toArray, List.nil_append, List.cons_append]
  refine wpR_seq (wpR_of_wp ?_)
  go_wp2
  rw [HW.out]
  refine wpR_scope ?_
  refine wpR_seq (wpR_of_wp ?_)
  go_wp2_with fail
  refine (hwh W).mono ?_
  rintro e w2 ⟨A2, c2, rfl, hf2, ho2⟩
  have hf12 := hfW.trans hf2
  have hbf2 := hbf.fr hf12 (by simp)
  have hbp2 := hbp.fr hf12 (by simp)
  have e5 := hbf2.cell 0 rfl
  have f5 := hbf2.frozen 0
  have hr2 : Rd w2 (.int .i64) A2 c2 all := (Rd.of_own ho2).2
  have hn2 := Nw.own ho2
  have hz2 := hf2.size
  have hzz := HZ.out
  have hat2 : 0 < all.length → ∀ a, A2 = some a → w1.heap.size ≤ a.block ∧ a.block < w2.heap.size := fun h0 a ha => ⟨by have := hn2 a ha; omega, hr2.lt h0 a ha⟩
  have hsb2 := hsbW.fr hf2 (by simp)
  have hsk3 : SK (w2.setCell ⟨bf, 0, none⟩ (.slice A2 all.length c2)) s km ans 0 [] := (hsk.fr0 hf12).farS hbf2 (by omega) (by omega) (.slice A2 all.length c2)
  have hf13 : Fr [bf] w1 (w2.setCell ⟨bf, 0, none⟩ (.slice A2 all.length c2)) := (hf12.mono (by simp)).setCell (.inl (by simp)) _
  have hr3 := hr2.setCell (p := ⟨bf, 0, none⟩) (fun h0 a ha => by have := (hat2 h0 a ha).1; show a.block ≠ bf; omega) (.slice A2 all.length c2)
  have hbf3 := hbf2.set_ 0 (.slice A2 all.length c2)
  have hbp3 := hbp2.far (p := ⟨bf, 0, none⟩) l3 (.slice A2 all.length c2)
  have hsb3 := hsb2.far (p := ⟨bf, 0, none⟩) (by show w1.heap.size ≠ bf; omega) (.slice A2 all.length c2)
  simp only [List.setIfInBounds_toArray, List.set_cons_zero] at hbf3
  go_wp2_with fail
  have hz3 : w2.heap.size ≤ (w2.setCell ⟨bf, 0, none⟩ (.slice A2 all.length c2)).heap.size := by simp
  clear k1 e5 f5 hbf2 hbp2 hr2 hf2 ho2 hsb2 hsbW hn2 HW HZ hf12 hfW
  generalize w2.setCell ⟨bf, 0, none⟩ (.slice A2 all.length c2) = w3 at *
  have hw03 : Fr [] w0 w3 := L.w01.trans2 hf13 (by simp; omega)
  have hat3 : 0 < all.length → ∀ a, A2 = some a → w1.heap.size ≤ a.block ∧ a.block < w3.heap.size := fun h0 a ha => ⟨(hat2 h0 a ha).1, by have := (hat2 h0 a ha).2; omega⟩
  have hcn : ∀ W', Fr [s, km] w3 W' → (∃ p f, CandAt W' bp (Out h0 w1.heap.size) p ∧ CandAt W' bf (Out h0 w1.heap.size) f ∧ p.length ≤ 256 ∧ f.length ≤ 256) ∧ Fr (s :: km :: [bp, bf]) w1 W' := fun W' hf => by
    have hc1 : CandAt W' bp (Out h0 w1.heap.size) [] := ⟨none, 0, hbp3.fr hf (by simp; omega), Rd.nil_ _ _, by simp⟩
    have hc2 : CandAt W' bf (Out h0 w1.heap.size) all := ⟨A2, c2, hbf3.fr hf (by simp; omega), hr3.fr hf (fun h0 a ha => by have := (hat3 h0 a ha).1; simp; omega), fun h0 a ha => .inr (hat3 h0 a ha).1⟩
    exact ⟨⟨[], all, hc1, hc2, by simp, hal⟩, (hf13.mono (by simp)).trans (hf.mono (by simp))⟩
  have hz13 : w1.heap.size + 1 ≤ w3.heap.size := by omega
  clear hat2 hz2 hz3 hzz hbp hbf hbn hsk
  have k4 := hsb3.cell 0 rfl
  have HCN := Lib.hid hcn
  clear hcn
  refine wpR_seq (wpR_of_wp ?_)
  rcases hq : askV ans 0 [] [] with _ | ⟨v, u, kn⟩
  · have hR : Hid (full = .inl []) := by show _ = _; rw [← HFUL.out, HTD.out, Tr.go_none (askS_none hq)]
    have HQ := Lib.hid hq
    clear hq
    go_wp2_with fail
    refine (passes_ask s km ans 0 [] none 0 [] w3 hsk3 (hn' _) (by simp) (by intro x hx; simp at hx) (ht.fr hw03) HQ.out).mono ?_
    rintro e w5 ⟨A5, c5, rfl, hr5, hf5, hnw⟩
    obtain ⟨hj, hfj⟩ := HCN.out w5 (hf5.mono (by simp))
    have hf13s := hf13.size
    go_wp2
    refine leaves_marks _ (by simp) [] w5 (by simp) (by simp) fun W' hf' => ?_
    rw [hR.out]
    obtain ⟨pp, ff, j1, j2, j3, j4⟩ := hj
    exact ⟨A5, c5, rfl, hr5.fr0 hf', hfj.trans0 hf', hnw.mono hf13s, pp, ff, j1.fr0 hf', j2.fr0 hf', j3, j4⟩
  · have hfl : full = ((if v = 1 then .ask all fun v => if v = 2 then difT (difM [] all 2 + 1) [] all 2 else .ret (7, [], []) else .ret (7, [], [])) : Tr (List Int) Int Res).go (askS ans) (u, kn) := by
      rw [← HFUL.out, HTD.out, Tr.go_some (askS_some hq)]
    have HQ := Lib.hid hq
    clear hq HFUL HTD
    by_cases hv : v = 1
    · have hb : (v == 1) = true := by simp [hv]
      rw [if_pos hv] at hfl
      have HFL := Lib.hid hfl
      clear hfl hv
      go_wp2_with fail
      refine (passes_got s km ans 0 [] none 0 [] w3 hsk3 (hn' _) (by simp) (by intro x hx; simp at hx) (ht.fr hw03) HQ.out).mono ?_
      rw [hb]
      rintro e w4 ⟨rfl, hf4, hsk4⟩
      have hbf4 := hbf3.fr hf4 (by simp; omega)
      have hsb4 := hsb3.fr hf4 (by simp; omega)
      have hr4 := hr3.fr hf4 (fun h0 a ha => by have := (hat3 h0 a ha).1; simp; omega)
      have hw04 : Fr [] w0 w4 := hw03.trans2 hf4 (by have := hw03.size; have := L.w01.size; simp; omega)
      have k5 := hbf4.cell 0 rfl
      have k4' := hsb4.cell 0 rfl
      have hz34 := hf4.size
      have hf13s := hf13.size
      rcases hq : askV ans u kn all with _ | ⟨v2, u2, kn2⟩
      · have hR : Hid (full = .inl all) := by show _ = _; rw [HFL.out, Tr.go_none (askS_none hq)]
        have HQ2 := Lib.hid hq
        clear hq
        go_wp2_with fail
        refine (fails_ask s km ans u kn A2 c2 all w4 hsk4 hr4 (by omega) (i64_of HUS.out (by omega)) (ht.fr hw04) HQ2.out).mono ?_
        rintro e w5 ⟨A5, c5, rfl, hr5, hf5, hnw⟩
        obtain ⟨hj, hfj⟩ := HCN.out w5 (hf4.trans (hf5.mono (by simp)))
        go_wp2
        refine leaves_marks _ (by simp) [] w5 (by simp) (by simp) fun W' hf' => ?_
        rw [hR.out]
        obtain ⟨pp, ff, j1, j2, j3, j4⟩ := hj
        exact ⟨A5, c5, rfl, hr5.fr0 hf', hfj.trans0 hf', hnw.mono (by omega), pp, ff, j1.fr0 hf', j2.fr0 hf', j3, j4⟩
      · have hfl := HFL.out
        rw [Tr.go_some (askS_some hq)] at hfl
        have HQ2 := Lib.hid hq
        clear hq HFL
        by_cases hv2 : v2 = 2
        · have hb2 : (v2 == 2) = true := by simp [hv2]
          rw [if_pos hv2] at hfl
          have HFL := Lib.hid hfl
          clear hfl hv2
          go_wp2_with fail
          refine (fails_got s km ans u kn A2 c2 all w4 hsk4 hr4 (by omega) (i64_of HUS.out (by omega)) (ht.fr hw04) HQ2.out).mono ?_
          rw [hb2]
          rintro e w5 ⟨rfl, hf5, hsk5⟩
          have hf35 := hf4.trans hf5
          have hz5 := hf5.size
          obtain ⟨W6, hW6⟩ : ∃ W6, W6 = w5.alloc (.cells #[.int .i64 2] 3) := ⟨_, rfl⟩
          have hf56 : Fr [] w5 W6 := by rw [hW6]; exact (Fr.refl _ _).alloc _
          have hO : DfO w1 s km bp bf w5.heap.size m ans full [] (difM [] all 2 + 1) W6 := by
            refine ⟨none, 0, [], A2, c2, all, 2, u2, kn2, ⟨?_, hsk5.fr0 hf56, ?_, hn' _, by simp, ?_, ?_, ?_, ?_, ?_, by omega, by simp⟩, ⟨Nat.le_refl _, by omega⟩, hal, Nat.lt_succ_self _, HDF, HFL.out⟩
            · exact ((hf13.mono (by simp)).trans (hf35.mono (by simp))).trans0 hf56
            · exact (hbp3.fr hf35 (by simp; omega)).fr hf56 (by simp)
            · exact (hbf3.fr hf35 (by simp; omega)).fr hf56 (by simp)
            · exact (hr3.fr hf35 (fun h0 a ha => by have := (hat3 h0 a ha).1; simp; omega)).fr0 hf56
            · intro h0 a ha; have := hat3 h0 a ha; omega
            · rw [hW6]; exact Blk.new _ _ _ _ rfl
            · exact (hsb3.fr hf35 (by simp; omega)).fr hf56 (by simp)
          have HW6 := Lib.hid hW6.symm
          have hgl : w1.heap.size < w5.heap.size := by omega
          clear hf4 hf5 hsk4 hsk5 hbf4 hsb4 hr4 k5 k4' hw04 hf35 hf56 hW6 HFL hsb3 hbp3 hbf3 hr3 hat3 hf13 hsk3 k4 HCN hw03 hb hb2 HQ HQ2
          go_wp2
          refine wpR_seq (wpR_of_wp ?_)
          go_wp2
          rw [HW6.out]
          clear HW6
          generalize w5.heap.size = gb at *
          refine wpR_seq (wpR_of_wp (wp_label ?_))
          refine wpR_seq (wpR_mono (Q := DfMid w1 s km bp bf gb ans full) ?loop ?rest)
          case loop =>
            refine wpR_block (wpR_loop (fun t a W => ∃ f ms, a = DfAct w1 bp bf gb f ms ∧ ms.Nodup ∧ DfO w1 s km bp bf gb m ans full ms t W) (difM [] all 2 + 1) ?_ ?round)
            · obtain ⟨f, hf⟩ := dfAct_of (w1 := w1) (bp := bp) (bf := bf) (gb := gb) (ms := [])
              exact ⟨f, [], hf, by simp, hO⟩
            case round =>
              clear hO
              rintro t a W ⟨fs, ms, rfl, hnd, A, ca, p, B, cb, f, g, u, kn, hS, ⟨hg, hg2⟩, hfl, hmt, hdi, hfu⟩
              obtain ⟨s', rfl⟩ : ∃ s', t = s' + 1 := ⟨t - 1, by omega⟩
              refine ⟨s', rfl, fun K hK => ?_⟩
              have e1 := hS.pb.cell 0 rfl
              have e2 := hS.fb.cell 0 rfl
              have e3 := hS.gbb.cell 0 rfl
              have hpl := difT_pass_len hdi.out hfl
              by_cases h2 : p.length + 2 ≤ f.length
              · have hd : decide ((f.length : Int) ≥ (p.length : Int) + 2) = true := by simp; omega
                have hdw : IntKind.i64.wrap ((p.length : Int) + 2) = (p.length : Int) + 2 := IntWalk.i64_in _ (by omega)
                rw [difT_two h2] at hfu
                unfold DfAct
                refine wpR_seq (wpR_of_wp ?_)
                go_wp2_with fail
                refine wpR_block ?_
                refine wpR_seq (wpR_of_wp ?_)
                go_wp2_with fail
                refine (without_any B A cb ca f p W hS.frd hS.prd (by omega)).mono ?_
                simp only [RetOwn, List.length_map]
                rintro e wd ⟨E, ce, rfl, hfd, hod⟩
                obtain ⟨d, hdd⟩ : ∃ d, minus f p = d := ⟨_, rfl⟩
                rw [hdd] at hod hfu ⊢
                have hzW := hS.fr.size
                have hSd := hS.fr_ L hfd
                have hEd : Rd wd (.int .i64) E ce d := own_rd hod rfl rfl
                have hEn : ∀ a, E = some a → w1.heap.size ≤ a.block := fun a ha => Nat.le_trans hzW (Nw.own hod a ha)
                have hdl : Hid (d.length = f.length - p.length) := by show _ = _; rw [← hdd]; exact hdi.out.len.1
                have hdl2 : d.length ≤ 256 ∧ 2 ≤ d.length := by have := hdl.out; omega
                have HDD := Lib.hid hdd
                have HST := Lib.hid (fun k hk => dif_step (k := k) hdi.out hg h2 hfl HDD.out hk rfl)
                clear hdd hod e1 e2 e3 hd hdw
                go_wp2
                refine wpR_seq (wpR_seq (wpR_of_wp ?_))
                have e3 := hSd.gbb.cell 0 rfl
                go_wp2_with fail
                refine (cuts_any E ce d.length g wd (by omega)).mono ?_
                rintro e w5 ⟨rfl, rfl⟩
                go_wp2
                refine wpR_block ?_
                have hent : ∀ args w, (callFunc 103 args).run Tryd.prog w = .ok (.enter 103 args) w := fun args w => by simp [go_sem]
                obtain ⟨b0, o0, hEE, _⟩ := hEd.at0 (by omega)
                subst hEE
                have hcb := hEd.capBound
                have hNm := cutN_le d.length (g : Int)
                obtain ⟨d2, hd2⟩ : ∃ x, (if d.length ≤ g then .ret (0, f, p) else difT s' p f (min (2 * g) d.length) : Tr (List Int) Int Res) = x := ⟨_, rfl⟩
                rw [hd2] at hfu
                have HD2 := Lib.hid hd2
                clear hd2
                have HQS := Lib.hid (fun k hk => dif_chunk (d := d) (g := g) (k := k) hk)
                have HLC := Lib.hid (chunksOf_length d (g : Int))
                generalize chunksOf d (g : Int) = qs at *
                obtain ⟨fT, hfT⟩ : ∃ x, difT s' = x := ⟨_, rfl⟩
                rw [hfT] at hfu
                have HFT := Lib.hid hfT
                clear hfT
                have hgv := cuts_gives wd.heap.size b0 o0 d.length ce (cutN d.length (g : Int)) (some ⟨b0, o0, none⟩) (fun _ => rfl) (by omega) hNm hEd.le hcb
                have hzd := hSd.fr.size
                obtain ⟨N, HNN⟩ : ∃ N, Hid (cutN d.length (g : Int) = N) := ⟨_, rfl⟩
                rw [HNN.out] at hgv hNm HQS HST HLC ⊢
                obtain ⟨W1, hW1⟩ : ∃ W1, W1 = (wd.alloc (.cells #[.slice (some ⟨b0, o0, none⟩) d.length ce] 22)).alloc (.cells #[.int .i64 N] 3) := ⟨_, rfl⟩
                have hz1 : W1.heap.size = wd.heap.size + 1 + 1 := by rw [hW1]; simp
                have HZ1 := Lib.hid hz1
                have hfW1 : Fr [] wd W1 := by rw [hW1]; exact (by repeat (first | exact Fr.refl _ _ | assumption | apply Fr.drewN | apply Fr.drew | apply Fr.alloc | refine Fr.setCell ?_ (by simp) _))
                have hI1 : DfI w1 s km bp bf gb ans full ms A ca p B cb f g (some ⟨b0, o0, none⟩) ce d wd.heap.size N fT d2 qs 0 W1 :=
                  ⟨Nat.zero_le _, u, kn, hSd.fr_ L hfW1, hEd.fr0 hfW1, hEn, by rw [hW1]; exact (Blk.new wd _ _ _ rfl).alloc _, by rw [hW1]; exact Blk.new _ _ _ _ (by simp), hfu⟩
                rw [← hW1]
                clear hW1 hz1 hfd e3
                have hmsb := hSd.below
                clear hfu hS hSd hEd
                refine wpR_rangeFunc 36 rfl rfl hent hgv (DfI w1 s km bp bf gb ans full ms A ca p B cb f g (some ⟨b0, o0, none⟩) ce d wd.heap.size N fT d2 qs)
                  (fun code W => code = .exit 1 ∧ DfO w1 s km bp bf gb m ans full ms s' W) (DfQ w1 s km bp bf gb ans full ms) W1.heap.size rfl
                  (fun k W W' h hn hf => h.nc L (by have := HZ1.out; omega) (fun D' hD' => by have := hmsb D' hD'; have := HZ1.out; omega) hn hf) (fun code W W' h hn hf => ⟨h.1, h.2.nc L (by have := HZ1.out; omega) (fun D' hD' => by have := hmsb D' hD'; have := HZ1.out; omega) hn hf⟩)
                  (fun k W h => by obtain ⟨_, _, _, _, _, _, h3, h4, _⟩ := h; exact ⟨h3.cell 0 rfl, h4.cell 0 rfl⟩) (fun W hf _ => hI1.fr_ L hf)
                  (fun k => { tmps := #[fs 0, fs 1, .pointer (some ⟨bf, 0, none⟩), .pointer (some ⟨bp, 0, none⟩), .pointer (some ⟨w1.heap.size, 0, none⟩), fs 5, .pointer (some ⟨gb, 0, none⟩), .slice (some ⟨b0, o0, none⟩) d.length ce, chunkV b0 o0 d.length ce N k, fs 9, fs 10, fs 11, fs 12, fs 13, fs 14, fs 15, fs 16, fs 17, fs 18, fs 19, fs 20, fs 21, fs 22, fs 23, .slice B f.length cb, .int .i64 f.length, .slice A p.length ca, .int .i64 p.length, .int .i64 (p.length + 2), .bool true, .slice B f.length cb, .slice A p.length ca, .slice (some ⟨b0, o0, none⟩) d.length ce, .slice (some ⟨b0, o0, none⟩) d.length ce, .int .i64 g, .func (.func 103) #[] #[.pointer (some ⟨wd.heap.size + 1, 0, none⟩), .pointer (some ⟨wd.heap.size, 0, none⟩)], chunkV b0 o0 d.length ce N k, fs 37, fs 38, fs 39, fs 40, fs 41, fs 42, fs 43, fs 44, fs 45, fs 46, fs 47, fs 48, fs 49, fs 50, fs 51, fs 52, fs 53, fs 54, fs 55, fs 56, fs 57, fs 58, fs 59, fs 60, fs 61, fs 62, fs 63, fs 64, fs 65, fs 66, fs 67, fs 68, fs 69, fs 70, fs 71, fs 72, fs 73, fs 74, fs 75, fs 76, fs 77, fs 78, fs 79, fs 80, fs 81, fs 82, fs 83, fs 84, fs 85], defers := [] })
                  ?assign ?body ?done ?stop ?pan
                case assign =>
                  intro l k W K hK
                  gi_wp2
                  exact hK
                case body =>
                  rintro k W2 hk ⟨_, u, kn, hS, hE, _, hB1, hB2, hfu⟩ hn
                  have hch := Lib.hid (chunkV_eq (b := b0) (o := o0) (c := ce) (N := N) (xs := d) hk)
                  have hrc := (hE.chunk hk hNm : Rd W2 (.int .i64) (some ⟨b0, o0 + k * d.length / N, none⟩) (ce - k * d.length / N) (chunkOf d N k))
                  have hqk := dif_at (kf := fT) (d := d2) (p := p) (f := f) (g := g) (HQS.out k hk)
                  rw [hqk] at hfu
                  clear hqk
                  have hst := HST.out k hk
                  have hxl : (chunkOf d N k).length ≤ 256 := Nat.le_trans (chunkOf_sub _ _ _).length_le hdl2.1
                  rw [hch.out]
                  clear hch
                  generalize chunkOf d N k = x at *
                  obtain ⟨st1, st2, ⟨st3, st4⟩, ⟨st5, st6⟩, ⟨st7, st8⟩, ⟨st9, st10⟩, st11, st12⟩ := hst
                  have HS1 := Lib.hid st1
                  have HS2 := Lib.hid st2
                  have HS3 := Lib.hid st3
                  have HS5 := Lib.hid st5
                  have HS7 := Lib.hid st7
                  have HS9 := Lib.hid st9
                  clear st1 st2 st3 st5 st7 st9
                  have hSd := hS.fr_ L ((Fr.refl _ _).drew)
                  have hrcd := hrc.fr0 ((Fr.refl _ _).drew)
                  obtain ⟨X, hX⟩ : ∃ X : Option Addr, some ⟨b0, o0 + k * d.length / N, none⟩ = X := ⟨_, rfl⟩
                  obtain ⟨cx, hcx⟩ : ∃ cx, ce - k * d.length / N = cx := ⟨_, rfl⟩
                  rw [hX, hcx] at hrcd ⊢
                  clear hX hcx hrc
                  have hzd2 := hSd.fr.size
                  have hgw := hSd.gbb.lt
                  gi_wp2_with fail
                  refine wpIn_region_heldR (S := fun w => w.cell? ⟨bp, 0, none⟩ = some (.slice A p.length ca) ∧ w.cell? ⟨bf, 0, none⟩ = some (.slice B f.length cb)) (by kernel_rfl) (by kernel_rfl) (fun ⟨_, _, h⟩ => h) ⟨hSd.pb.cell 0 rfl, hSd.fb.cell 0 rfl⟩ (fun hHeld => ?_)
                  refine wpAnyH_take (i := 0) (v := .slice A p.length ca) rfl (by kernel_rfl) (by kernel_rfl) (by kernel_rfl) (fun _ _ _ h => h) (Or.inl ⟨by rfl, fun w hSw => ?_⟩) (by assumption) ?_
                  · (try dsimp only at hSw); go_simp
                  try simp only [Act.put, List.setIfInBounds_toArray, List.set_cons_zero, List.set_cons_succ]
                  refine wpAnyH_take (i := 1) (v := .slice X x.length cx) rfl (by kernel_rfl) (by kernel_rfl) (by kernel_rfl) (fun _ _ _ h => h) (Or.inl ⟨by rfl, fun w hSw => ?_⟩) (by assumption) ?_
                  · (try dsimp only at hSw); go_simp
                  try simp only [Act.put, List.setIfInBounds_toArray, List.set_cons_zero, List.set_cons_succ]
                  refine wpAnyH_take (i := 3) (v := .slice B f.length cb) rfl (by kernel_rfl) (by kernel_rfl) (by kernel_rfl) (fun _ _ _ h => h) (Or.inl ⟨by rfl, fun w hSw => ?_⟩) (by assumption) ?_
                  · (try dsimp only at hSw); go_simp
                  try simp only [Act.put, List.setIfInBounds_toArray, List.set_cons_zero, List.set_cons_succ]
                  refine wpAnyH_take (i := 4) (v := .slice X x.length cx) rfl (by kernel_rfl) (by kernel_rfl) (by kernel_rfl) (fun _ _ _ h => h) (Or.inl ⟨by rfl, fun w hSw => ?_⟩) (by assumption) ?_
                  · (try dsimp only at hSw); go_simp
                  try simp only [Act.put, List.setIfInBounds_toArray, List.set_cons_zero, List.set_cons_succ]
                  refine wpAnyH_ready (rs := [2]) (by kernel_rfl) (by simp) ?_
                  refine AllReadyH.cons rfl (fun K hK => ?_) AllReadyH.nil
                  go_simp
                  refine (union_any A X ca cx p x _ hSd.prd hrcd (by omega) (by omega)).mono ?_
                  rintro e w4 ⟨A4, c4, rfl, hf4, ho4⟩
                  have hHeld4 := hHeld
                  refine hK.out _ _ (⟨hf4.cell hHeld4.1 (by simp), hf4.cell hHeld4.2 (by simp)⟩) (fun hHeld => ?_)
                  clear hK K
                  try simp only [Act.put, List.setIfInBounds_toArray, List.set_cons_zero, List.set_cons_succ]
                  refine wpAnyH_ready (rs := [5]) (by kernel_rfl) (by simp) ?_
                  refine AllReadyH.cons rfl (fun K hK => ?_) AllReadyH.nil
                  go_simp
                  refine (without_any B X cb cx f x _ (hSd.frd.fr0 hf4) (hrcd.fr0 hf4) (by omega)).mono ?_
                  simp only [RetOwn, List.length_map]
                  rintro e w5 ⟨A5, c5, rfl, hf5, ho5⟩
                  have hHeld5 := hHeld
                  refine hK.out _ _ (⟨hf5.cell hHeld5.1 (by simp), hf5.cell hHeld5.2 (by simp)⟩) (fun hHeld => ?_)
                  clear hK K
                  try simp only [Act.put, List.setIfInBounds_toArray, List.set_cons_zero, List.set_cons_succ]
                  refine wpAnyH_ready (rs := [6]) (by kernel_rfl) (by simp) ?_
                  refine AllReadyH.cons rfl (fun K hK => ?_) AllReadyH.nil
                  go_simp
                  refine hK.out _ _ (by assumption) (fun hHeld => ?_)
                  clear hK K
                  try simp only [Act.put, List.setIfInBounds_toArray, List.set_cons_zero, List.set_cons_succ]
                  refine wpAnyH_ready (rs := [7]) (by kernel_rfl) (by simp) ?_
                  refine AllReadyH.cons rfl (fun K hK => ?_) AllReadyH.nil
                  go_simp
                  refine hK.out _ _ (by assumption) (fun hHeld => ?_)
                  clear hK K
                  try simp only [Act.put, List.setIfInBounds_toArray, List.set_cons_zero, List.set_cons_succ]
                  refine wpAnyH_done (by kernel_rfl) ?_ _
                  have hr4 : Rd w5 (.int .i64) A4 c4 (plus p x) := (Rd.of_own ho4).2.fr0 hf5
                  have hr5 : Rd w5 (.int .i64) A5 c5 (minus f x) := own_rd ho5 rfl rfl
                  have hfd2 : Fr [] W2 W2.drew := (Fr.refl _ _).drew
                  have hn4 : ∀ a, A4 = some a → W2.heap.size ≤ a.block := fun a ha => Nat.le_trans hfd2.size (Nw.own ho4 a ha)
                  have hn5 : ∀ a, A5 = some a → W2.heap.size ≤ a.block := fun a ha => Nat.le_trans (Nat.le_trans hfd2.size hf4.size) (Nw.own ho5 a ha)
                  have hf25 : Fr [] W2 w5 := (hfd2.trans hf4).trans hf5
                  have hS5 := hS.fr_ L hf25
                  have hzw := hS.fr.size
                  have hgw2 := hS.gbb.lt
                  clear hrcd hSd ho4 ho5 hf4 hf5 hHeld4 hHeld5 hHeld hzd2 hgw
                  generalize plus p x = mo at *
                  generalize minus f x = le at *
                  have hx4 : 0 < mo.length → ∀ a, A4 = some a → w1.heap.size ≤ a.block ∧ a.block ≠ gb := fun _ a ha => by have := hn4 a ha; omega
                  have hx5 : 0 < le.length → ∀ a, A5 = some a → w1.heap.size ≤ a.block ∧ a.block ≠ gb := fun _ a ha => by have := hn5 a ha; omega
                  have hS6 := hS5.fr_ L ((Fr.refl _ _).drew)
                  have hr46 := hr4.fr0 ((Fr.refl _ _).drew)
                  have hr56 := hr5.fr0 ((Fr.refl _ _).drew)
                  have hf26 : Fr [] W2 w5.drew := hf25.drew
                  have hz6 := hf26.size
                  have hn46 : w1.heap.size ≤ W2.heap.size := hzw
                  gi_wp2_with fail
                  refine wpIn_region_heldR (S := fun w => w.cell? ⟨w1.heap.size, 0, none⟩ = some (.pointer (some ⟨s, 0, none⟩))) (by kernel_rfl) (by kernel_rfl) (fun ⟨_, _, h⟩ => h) (hS6.sbb.cell 0 rfl) (fun hHeld => ?_)
                  refine wpAnyH_take (i := 0) (v := .pointer (some ⟨s, 0, none⟩)) rfl (by kernel_rfl) (by kernel_rfl) (by kernel_rfl) (fun _ _ _ h => h) (Or.inl ⟨by rfl, fun w hSw => ?_⟩) (by assumption) ?_
                  · (try dsimp only at hSw); go_simp
                  try simp only [Act.put, List.setIfInBounds_toArray, List.set_cons_zero, List.set_cons_succ]
                  refine wpAnyH_take (i := 1) (v := .slice A4 mo.length c4) rfl (by kernel_rfl) (by kernel_rfl) (by kernel_rfl) (fun _ _ _ h => h) (Or.inl ⟨by rfl, fun w hSw => ?_⟩) (by assumption) ?_
                  · (try dsimp only at hSw); go_simp
                  try simp only [Act.put, List.setIfInBounds_toArray, List.set_cons_zero, List.set_cons_succ]
                  refine wpAnyH_take (i := 3) (v := .slice A4 mo.length c4) rfl (by kernel_rfl) (by kernel_rfl) (by kernel_rfl) (fun _ _ _ h => h) (Or.inl ⟨by rfl, fun w hSw => ?_⟩) (by assumption) ?_
                  · (try dsimp only at hSw); go_simp
                  try simp only [Act.put, List.setIfInBounds_toArray, List.set_cons_zero, List.set_cons_succ]
                  refine wpAnyH_take (i := 6) (v := .pointer (some ⟨s, 0, none⟩)) rfl (by kernel_rfl) (by kernel_rfl) (by kernel_rfl) (fun _ _ _ h => h) (Or.inl ⟨by rfl, fun w hSw => ?_⟩) (by assumption) ?_
                  · (try dsimp only at hSw); go_simp
                  try simp only [Act.put, List.setIfInBounds_toArray, List.set_cons_zero, List.set_cons_succ]
                  refine wpAnyH_take (i := 7) (v := .slice A5 le.length c5) rfl (by kernel_rfl) (by kernel_rfl) (by kernel_rfl) (fun _ _ _ h => h) (Or.inl ⟨by rfl, fun w hSw => ?_⟩) (by assumption) ?_
                  · (try dsimp only at hSw); go_simp
                  try simp only [Act.put, List.setIfInBounds_toArray, List.set_cons_zero, List.set_cons_succ]
                  refine wpAnyH_take (i := 9) (v := .slice A5 le.length c5) rfl (by kernel_rfl) (by kernel_rfl) (by kernel_rfl) (fun _ _ _ h => h) (Or.inl ⟨by rfl, fun w hSw => ?_⟩) (by assumption) ?_
                  · (try dsimp only at hSw); go_simp
                  try simp only [Act.put, List.setIfInBounds_toArray, List.set_cons_zero, List.set_cons_succ]
                  generalize w5.drew = w6 at *
                  clear hS5 hr4 hr5 hf25
                  refine wpAnyH_ready (rs := [2]) (by kernel_rfl) (by simp) ?_
                  refine AllReadyH.cons rfl (fun K hK => ?_) AllReadyH.nil
                  go_simp
                  refine (key_any A4 c4 mo w6 hr46 (by omega) (i64_of HS1.out (by omega)) (hS6.tab L ht)).mono ?_
                  rintro e w7 ⟨rfl, hf7⟩
                  have hHeld6 := hHeld
                  refine hK.out _ _ (hf7.cell hHeld6 (by simp)) (fun hHeld => ?_)
                  clear hK K
                  try simp only [Act.put, List.setIfInBounds_toArray, List.set_cons_zero, List.set_cons_succ]
                  refine wpAnyH_ready (rs := [4]) (by kernel_rfl) (by simp) ?_
                  refine AllReadyH.cons rfl (fun K hK => ?_) AllReadyH.nil
                  go_simp
                  refine (fresh_any A4 c4 mo w7 (hr46.fr0 hf7) (by omega)).mono ?_
                  rintro e w8 hn8
                  obtain ⟨A8, c8, rfl, hf8, ho8⟩ := hn8.n
                  have hHeld7 := hHeld
                  refine hK.out _ _ (hf8.cell hHeld7 (by simp)) (fun hHeld => ?_)
                  clear hK K
                  try simp only [Act.put, List.setIfInBounds_toArray, List.set_cons_zero, List.set_cons_succ]
                  have hr8 : Rd w8 (.int .i64) A8 c8 mo := (Rd.of_own ho8).2
                  have hf68 := hf7.trans hf8
                  have hS8 := hS6.fr_ L hf68
                  have hn8' : Nw w1.heap.size A8 := (Nw.own ho8).mono (by have := hf7.size; omega)
                  clear ho8 hn8
                  refine wpAnyH_ready (rs := [5]) (by kernel_rfl) (by simp) ?_
                  refine AllReadyH.cons rfl (fun K hK => ?_) AllReadyH.nil
                  go_simp
                  rcases hqa : askV ans u kn mo with _ | ⟨va, u2, kn2⟩
                  · have hR : Hid (full = .inl mo) := by show _ = _; rw [hfu.out, Tr.go_none (askS_none hqa)]
                    have HQ := Lib.hid hqa
                    clear hqa hfu
                    refine (once_ask s km ans u kn mo A8 mo.length c8 w8 hS8.sk HQ.out).mono ?_
                    rintro e w9 ⟨rfl, n9, rfl⟩
                    have hf89 : Fr [] w8 (w8.drewN n9) := (Fr.refl _ _).drewN n9
                    exact ⟨rfl, hS.clear hn ((hf26.trans hf68).trans hf89) (by simp), (hS8.fr_ L hf89).quit L hpl hfl (hr8.fr0 hf89) hn8' hR⟩
                  rw [Tr.go_some (askS_some hqa)] at hfu
                  have HQ := Lib.hid hqa
                  clear hqa
                  refine (once_got s km ans u kn mo _ w8 hS8.sk HQ.out).mono ?_
                  rintro e w9 ⟨rfl, hf9, hs9⟩
                  have hHeld8 := hHeld
                  refine hK.out _ _ (hf9.cell hHeld8 (by simp; omega)) (fun hHeld => ?_)
                  clear hK K
                  try simp only [Act.put, List.setIfInBounds_toArray, List.set_cons_zero, List.set_cons_succ]
                  have hf29 : Fr [s, km] W2 w9 := ((hf26.trans hf68).mono (by simp)).trans hf9
                  have hS9 := hS8.asked L hf9 hs9
                  have hr49 := (hr46.fr0 hf68).fr hf9 (fun h0 a ha => by have := (hx4 h0 a ha).1; simp; omega)
                  have hr59 := (hr56.fr0 hf68).fr hf9 (fun h0 a ha => by have := (hx5 h0 a ha).1; simp; omega)
                  clear hS6 hr46 hr56 hf68 hS8 hr8 hn8' hf7 hf8 hHeld6 hHeld7 hHeld8 hf9 hs9 hf26 HQ
                  refine wpAnyH_ready (rs := [8]) (by kernel_rfl) (by simp) ?_
                  refine AllReadyH.cons rfl (fun K hK => ?_) AllReadyH.nil
                  go_simp
                  refine (key_any A5 c5 le w9 hr59 (by omega) (i64_of HS2.out (by omega)) (hS9.tab L ht)).mono ?_
                  rintro e w10 ⟨rfl, hf10⟩
                  have hHeld9 := hHeld
                  refine hK.out _ _ (hf10.cell hHeld9 (by simp)) (fun hHeld => ?_)
                  clear hK K
                  try simp only [Act.put, List.setIfInBounds_toArray, List.set_cons_zero, List.set_cons_succ]
                  refine wpAnyH_ready (rs := [10]) (by kernel_rfl) (by simp) ?_
                  refine AllReadyH.cons rfl (fun K hK => ?_) AllReadyH.nil
                  go_simp
                  refine (fresh_any A5 c5 le w10 (hr59.fr0 hf10) (by omega)).mono ?_
                  rintro e w11 hn11
                  obtain ⟨A11, c11, rfl, hf11, ho11⟩ := hn11.n
                  have hHeld10 := hHeld
                  refine hK.out _ _ (hf11.cell hHeld10 (by simp)) (fun hHeld => ?_)
                  clear hK K
                  try simp only [Act.put, List.setIfInBounds_toArray, List.set_cons_zero, List.set_cons_succ]
                  have hr11 : Rd w11 (.int .i64) A11 c11 le := (Rd.of_own ho11).2
                  have hf911 := hf10.trans hf11
                  have hS11 := hS9.fr_ L hf911
                  have hn11' : Nw w1.heap.size A11 := (Nw.own ho11).mono (by have := hf10.size; have := hf29.size; omega)
                  clear ho11 hn11
                  refine wpAnyH_ready (rs := [11]) (by kernel_rfl) (by simp) ?_
                  refine AllReadyH.cons rfl (fun K hK => ?_) AllReadyH.nil
                  go_simp
                  rcases hqb : askV ans u2 kn2 le with _ | ⟨vb, u3, kn3⟩
                  · have hR : Hid (full = .inl le) := by show _ = _; rw [hfu.out, Tr.go_none (askS_none hqb)]
                    have HQ := Lib.hid hqb
                    clear hqb hfu
                    refine (once_ask s km ans u2 kn2 le A11 le.length c11 w11 hS11.sk HQ.out).mono ?_
                    rintro e w12 ⟨rfl, n12, rfl⟩
                    have hf12 : Fr [] w11 (w11.drewN n12) := (Fr.refl _ _).drewN n12
                    exact ⟨rfl, hS.clear hn (hf29.trans ((hf911.trans hf12).mono (by simp))) (by simp), (hS11.fr_ L hf12).quit L hpl hfl (hr11.fr0 hf12) hn11' hR⟩
                  rw [Tr.go_some (askS_some hqb)] at hfu
                  have HQ := Lib.hid hqb
                  clear hqb
                  refine (once_got s km ans u2 kn2 le _ w11 hS11.sk HQ.out).mono ?_
                  rintro e w12 ⟨rfl, hf12, hs12⟩
                  have hHeld11 := hHeld
                  refine hK.out _ _ (hf12.cell hHeld11 (by simp; omega)) (fun hHeld => ?_)
                  clear hK K
                  try simp only [Act.put, List.setIfInBounds_toArray, List.set_cons_zero, List.set_cons_succ]
                  have hf2z : Fr [s, km] W2 w12 := hf29.trans ((hf911.mono (by simp)).trans hf12)
                  have hSz := hS11.asked L hf12 hs12
                  have hr4z := (hr49.fr0 hf911).fr hf12 (fun h0 a ha => by have := (hx4 h0 a ha).1; simp; omega)
                  have hr5z := (hr59.fr0 hf911).fr hf12 (fun h0 a ha => by have := (hx5 h0 a ha).1; simp; omega)
                  clear hS9 hr49 hr59 hf911 hS11 hr11 hn11' hf10 hf11 hHeld9 hHeld10 hHeld11 hf12 hs12 hf29 HQ
                  refine wpAnyH_ready (rs := [12]) (by kernel_rfl) (by simp) ?_
                  refine AllReadyH.cons rfl (fun K hK => ?_) AllReadyH.nil
                  go_simp
                  refine hK.out _ _ (by assumption) (fun hHeld => ?_)
                  clear hK K
                  try simp only [Act.put, List.setIfInBounds_toArray, List.set_cons_zero, List.set_cons_succ]
                  refine wpAnyH_ready (rs := [13]) (by kernel_rfl) (by simp) ?_
                  refine AllReadyH.cons rfl (fun K hK => ?_) AllReadyH.nil
                  go_simp
                  refine hK.out _ _ (by assumption) (fun hHeld => ?_)
                  clear hK K
                  try simp only [Act.put, List.setIfInBounds_toArray, List.set_cons_zero, List.set_cons_succ]
                  refine wpAnyH_done (by kernel_rfl) ?_ _
                  by_cases ha2 : va = 2
                  · rw [if_pos ha2, ← HFT.out] at hfu
                    subst ha2
                    have hS10 := hSz.putF1 L hr4z hx4
                    have e5 := hSz.fb.cell 0 rfl
                    have f5 := hSz.fb.frozen 0
                    have e6 := hS10.gbb.cell 0 rfl
                    have f6 := hS10.gbb.frozen 0
                    have hO : DfO w1 s km bp bf gb m ans full ms s' _ := ⟨A, ca, p, A4, c4, mo, 2, u3, kn3, hS10.putG (g2 := 2) L, ⟨Nat.le_refl _, by omega⟩, by omega, by omega, HS3, hfu⟩
                    have HO := Lib.hid hO
                    clear hO
                    gi_wp2_with fail
                    exact ⟨hS.clear (S := [s, km, bp, bf, gb]) hn (((hf2z.mono (by simp)).setCell (.inl (by simp)) _).setCell (.inl (by simp)) _) (fun x hx => hx), rfl, HO.out⟩

                  · rw [if_neg ha2] at hfu
                    have hd2 : (va == 2) = false := by simpa using ha2
                    by_cases hb1 : vb = 1
                    · rw [if_pos hb1, ← HFT.out] at hfu
                      subst hb1
                      have hS10 := hSz.putP1 L hr5z hx5
                      have e5 := hSz.pb.cell 0 rfl
                      have f5 := hSz.pb.frozen 0
                      have e6 := hS10.gbb.cell 0 rfl
                      have f6 := hS10.gbb.frozen 0
                      have hO : DfO w1 s km bp bf gb m ans full ms s' _ := ⟨A5, c5, le, B, cb, f, 2, u3, kn3, hS10.putG (g2 := 2) L, ⟨Nat.le_refl _, by omega⟩, by omega, by omega, HS5, hfu⟩
                      have HO := Lib.hid hO
                      clear hO
                      gi_wp2_with fail
                      exact ⟨hS.clear (S := [s, km, bp, bf, gb]) hn (((hf2z.mono (by simp)).setCell (.inl (by simp)) _).setCell (.inl (by simp)) _) (fun x hx => hx), rfl, HO.out⟩

                    · rw [if_neg hb1] at hfu
                      have hd1 : (vb == 1) = false := by simpa using hb1
                      by_cases ha1 : va = 1
                      · rw [if_pos ha1, ← HFT.out] at hfu
                        subst ha1
                        have hSzd := hSz.fr_ L ((Fr.refl _ _).drew)
                        have hf2zd : Fr [s, km] W2 w12.drew := hf2z.drew
                        have hrzd := hr4z.fr0 ((Fr.refl _ _).drew)
                        gi_wp2_with fail
                        refine wpIn_region_heldR (S := fun _ => True) (by kernel_rfl) (by kernel_rfl) (fun ⟨_, _, h⟩ => h) trivial (fun hHeld => ?_)
                        generalize w12.drew = w13 at *
                        clear hSz hf2z hr4z hr5z
                        have hS10 := hSzd.putP1 L hrzd hx4
                        have e4 := hSzd.gbb.cell 0 rfl
                        have e5 := hSzd.pb.cell 0 rfl
                        have f5 := hSzd.pb.frozen 0
                        have e6 := hS10.gbb.cell 0 rfl
                        have f6 := hS10.gbb.frozen 0
                        by_cases hg3 : g = 2
                        · subst hg3
                          have hw1 : IntKind.i64.wrap 1 = 1 := by decide
                          have hw4 : max (1 : Int) 2 = 2 := by decide
                          have st8 : difM mo f 2 < difM p f 2 := st8
                          have hfu : Hid (full = (difT s' mo f 2).go (askS ans) (u3, kn3)) := hfu
                          have hO := (⟨A4, c4, mo, B, cb, f, 2, u3, kn3, hS10.putG (g2 := 2) L, ⟨by omega, by omega⟩, by omega, by omega, HS7, hfu⟩ : DfO w1 s km bp bf gb m ans full ms s' _)
                          have HO := Lib.hid hO
                          clear hO
                          refine wpAnyH_take (i := 0) (v := .slice A4 mo.length c4) rfl (by kernel_rfl) (by kernel_rfl) (by kernel_rfl) (fun _ _ _ h => h) (Or.inl ⟨by rfl, fun w hSw => ?_⟩) (by assumption) ?_
                          · (try dsimp only at hSw); go_simp
                          try simp only [Act.put, List.setIfInBounds_toArray, List.set_cons_zero, List.set_cons_succ]
                          refine wpAnyH_ready (rs := [1, 4]) (by kernel_rfl) (by simp) ?_
                          refine AllReadyH.cons rfl (fun K hK => ?_) (AllReadyH.cons rfl (fun K hK => ?_) AllReadyH.nil)
                          · go_simp
                            refine hK.out _ _ (trivial) (fun hHeld => ?_)
                            clear hK K
                            try simp only [Act.put, List.setIfInBounds_toArray, List.set_cons_zero, List.set_cons_succ]
                            refine wpAnyH_take (i := 2) (v := .int .i64 1) rfl (by kernel_rfl) (by kernel_rfl) (by kernel_rfl) (fun _ _ _ h => h) (Or.inl ⟨by rfl, fun w hSw => ?_⟩) (by assumption) ?_
                            · (try dsimp only at hSw); go_simp
                            try simp only [Act.put, List.setIfInBounds_toArray, List.set_cons_zero, List.set_cons_succ]
                            refine wpAnyH_take (i := 3) (v := .int .i64 (2 : Nat)) rfl (by kernel_rfl) (by kernel_rfl) (by kernel_rfl) (fun _ _ _ h => h) (Or.inl ⟨by rfl, fun w hSw => ?_⟩) (by assumption) ?_
                            · (try dsimp only at hSw); go_simp
                            try simp only [Act.put, List.setIfInBounds_toArray, List.set_cons_zero, List.set_cons_succ]
                            refine wpAnyH_ready (rs := [4]) (by kernel_rfl) (by simp) ?_
                            refine AllReadyH.cons rfl (fun K hK => ?_) AllReadyH.nil
                            go_simp
                            refine hK.out _ _ (trivial) (fun hHeld => ?_)
                            clear hK K
                            try simp only [Act.put, List.setIfInBounds_toArray, List.set_cons_zero, List.set_cons_succ]
                            refine wpAnyH_ready (rs := [5]) (by kernel_rfl) (by simp) ?_
                            refine AllReadyH.cons rfl (fun K hK => ?_) AllReadyH.nil
                            go_simp
                            refine hK.out _ _ (trivial) (fun hHeld => ?_)
                            clear hK K
                            try simp only [Act.put, List.setIfInBounds_toArray, List.set_cons_zero, List.set_cons_succ]
                            refine wpAnyH_done (by kernel_rfl) ?_ _
                            gi_wp2_with fail
                            exact ⟨hS.clear (S := [s, km, bp, bf, gb]) hn (((hf2zd.mono (by simp)).setCell (.inl (by simp)) _).setCell (.inl (by simp)) _) (fun x hx => hx), rfl, HO.out⟩
                          · go_simp
                            refine hK.out _ _ (trivial) (fun hHeld => ?_)
                            clear hK K
                            try simp only [Act.put, List.setIfInBounds_toArray, List.set_cons_zero, List.set_cons_succ]
                            refine wpAnyH_ready (rs := [1]) (by kernel_rfl) (by simp) ?_
                            refine AllReadyH.cons rfl (fun K hK => ?_) AllReadyH.nil
                            go_simp
                            refine hK.out _ _ (trivial) (fun hHeld => ?_)
                            clear hK K
                            try simp only [Act.put, List.setIfInBounds_toArray, List.set_cons_zero, List.set_cons_succ]
                            refine wpAnyH_take (i := 2) (v := .int .i64 1) rfl (by kernel_rfl) (by kernel_rfl) (by kernel_rfl) (fun _ _ _ h => h) (Or.inl ⟨by rfl, fun w hSw => ?_⟩) (by assumption) ?_
                            · (try dsimp only at hSw); go_simp
                            try simp only [Act.put, List.setIfInBounds_toArray, List.set_cons_zero, List.set_cons_succ]
                            refine wpAnyH_take (i := 3) (v := .int .i64 (2 : Nat)) rfl (by kernel_rfl) (by kernel_rfl) (by kernel_rfl) (fun _ _ _ h => h) (Or.inl ⟨by rfl, fun w hSw => ?_⟩) (by assumption) ?_
                            · (try dsimp only at hSw); go_simp
                            try simp only [Act.put, List.setIfInBounds_toArray, List.set_cons_zero, List.set_cons_succ]
                            refine wpAnyH_ready (rs := [5]) (by kernel_rfl) (by simp) ?_
                            refine AllReadyH.cons rfl (fun K hK => ?_) AllReadyH.nil
                            go_simp
                            refine hK.out _ _ (trivial) (fun hHeld => ?_)
                            clear hK K
                            try simp only [Act.put, List.setIfInBounds_toArray, List.set_cons_zero, List.set_cons_succ]
                            refine wpAnyH_done (by kernel_rfl) ?_ _
                            gi_wp2_with fail
                            exact ⟨hS.clear (S := [s, km, bp, bf, gb]) hn (((hf2zd.mono (by simp)).setCell (.inl (by simp)) _).setCell (.inl (by simp)) _) (fun x hx => hx), rfl, HO.out⟩
                        · obtain ⟨j, rfl⟩ : ∃ j : Nat, g = j + 1 := ⟨g - 1, by omega⟩
                          have hm2 : max (j + 1 - 1) 2 = j := by omega
                          rw [hm2] at hfu st8
                          clear hm2
                          have hw1 : IntKind.i64.wrap ((j : Int) + 1 - 1) = (j : Int) := by rw [Int.add_sub_cancel]; exact IntWalk.i64_in _ (by omega)
                          have hw2 : IntKind.i64.wrap (j : Int) = (j : Int) := IntWalk.i64_in _ (by omega)
                          have hw3 : ¬ (j : Int) < 2 := by omega
                          have hw4 : max (j : Int) 2 = (j : Int) := by omega
                          have hO := (⟨A4, c4, mo, B, cb, f, j, u3, kn3, hS10.putG (g2 := j) L, ⟨by omega, by omega⟩, by omega, by omega, HS7, hfu⟩ : DfO w1 s km bp bf gb m ans full ms s' _)
                          have HO := Lib.hid hO
                          clear hO
                          refine wpAnyH_take (i := 0) (v := .slice A4 mo.length c4) rfl (by kernel_rfl) (by kernel_rfl) (by kernel_rfl) (fun _ _ _ h => h) (Or.inl ⟨by rfl, fun w hSw => ?_⟩) (by assumption) ?_
                          · (try dsimp only at hSw); go_simp
                          try simp only [Act.put, List.setIfInBounds_toArray, List.set_cons_zero, List.set_cons_succ]
                          refine wpAnyH_ready (rs := [1, 4]) (by kernel_rfl) (by simp) ?_
                          refine AllReadyH.cons rfl (fun K hK => ?_) (AllReadyH.cons rfl (fun K hK => ?_) AllReadyH.nil)
                          · go_simp
                            refine hK.out _ _ (trivial) (fun hHeld => ?_)
                            clear hK K
                            try simp only [Act.put, List.setIfInBounds_toArray, List.set_cons_zero, List.set_cons_succ]
                            refine wpAnyH_take (i := 2) (v := .int .i64 j) rfl (by kernel_rfl) (by kernel_rfl) (by kernel_rfl) (fun _ _ _ h => h) (Or.inl ⟨by rfl, fun w hSw => ?_⟩) (by assumption) ?_
                            · (try dsimp only at hSw); go_simp
                            try simp only [Act.put, List.setIfInBounds_toArray, List.set_cons_zero, List.set_cons_succ]
                            refine wpAnyH_take (i := 3) (v := .int .i64 (j : Nat)) rfl (by kernel_rfl) (by kernel_rfl) (by kernel_rfl) (fun _ _ _ h => h) (Or.inl ⟨by rfl, fun w hSw => ?_⟩) (by assumption) ?_
                            · (try dsimp only at hSw); go_simp
                            try simp only [Act.put, List.setIfInBounds_toArray, List.set_cons_zero, List.set_cons_succ]
                            refine wpAnyH_ready (rs := [4]) (by kernel_rfl) (by simp) ?_
                            refine AllReadyH.cons rfl (fun K hK => ?_) AllReadyH.nil
                            go_simp
                            refine hK.out _ _ (trivial) (fun hHeld => ?_)
                            clear hK K
                            try simp only [Act.put, List.setIfInBounds_toArray, List.set_cons_zero, List.set_cons_succ]
                            refine wpAnyH_ready (rs := [5]) (by kernel_rfl) (by simp) ?_
                            refine AllReadyH.cons rfl (fun K hK => ?_) AllReadyH.nil
                            go_simp
                            refine hK.out _ _ (trivial) (fun hHeld => ?_)
                            clear hK K
                            try simp only [Act.put, List.setIfInBounds_toArray, List.set_cons_zero, List.set_cons_succ]
                            refine wpAnyH_done (by kernel_rfl) ?_ _
                            gi_wp2_with fail
                            exact ⟨hS.clear (S := [s, km, bp, bf, gb]) hn (((hf2zd.mono (by simp)).setCell (.inl (by simp)) _).setCell (.inl (by simp)) _) (fun x hx => hx), rfl, HO.out⟩
                          · go_simp
                            refine hK.out _ _ (trivial) (fun hHeld => ?_)
                            clear hK K
                            try simp only [Act.put, List.setIfInBounds_toArray, List.set_cons_zero, List.set_cons_succ]
                            refine wpAnyH_ready (rs := [1]) (by kernel_rfl) (by simp) ?_
                            refine AllReadyH.cons rfl (fun K hK => ?_) AllReadyH.nil
                            go_simp
                            refine hK.out _ _ (trivial) (fun hHeld => ?_)
                            clear hK K
                            try simp only [Act.put, List.setIfInBounds_toArray, List.set_cons_zero, List.set_cons_succ]
                            refine wpAnyH_take (i := 2) (v := .int .i64 j) rfl (by kernel_rfl) (by kernel_rfl) (by kernel_rfl) (fun _ _ _ h => h) (Or.inl ⟨by rfl, fun w hSw => ?_⟩) (by assumption) ?_
                            · (try dsimp only at hSw); go_simp
                            try simp only [Act.put, List.setIfInBounds_toArray, List.set_cons_zero, List.set_cons_succ]
                            refine wpAnyH_take (i := 3) (v := .int .i64 (j : Nat)) rfl (by kernel_rfl) (by kernel_rfl) (by kernel_rfl) (fun _ _ _ h => h) (Or.inl ⟨by rfl, fun w hSw => ?_⟩) (by assumption) ?_
                            · (try dsimp only at hSw); go_simp
                            try simp only [Act.put, List.setIfInBounds_toArray, List.set_cons_zero, List.set_cons_succ]
                            refine wpAnyH_ready (rs := [5]) (by kernel_rfl) (by simp) ?_
                            refine AllReadyH.cons rfl (fun K hK => ?_) AllReadyH.nil
                            go_simp
                            refine hK.out _ _ (trivial) (fun hHeld => ?_)
                            clear hK K
                            try simp only [Act.put, List.setIfInBounds_toArray, List.set_cons_zero, List.set_cons_succ]
                            refine wpAnyH_done (by kernel_rfl) ?_ _
                            gi_wp2_with fail
                            exact ⟨hS.clear (S := [s, km, bp, bf, gb]) hn (((hf2zd.mono (by simp)).setCell (.inl (by simp)) _).setCell (.inl (by simp)) _) (fun x hx => hx), rfl, HO.out⟩
                      · rw [if_neg ha1] at hfu
                        have hd3 : (va == 1) = false := by simpa using ha1
                        by_cases hb2 : vb = 2
                        · rw [if_pos hb2, ← HFT.out] at hfu
                          subst hb2
                          have hSzd := hSz.fr_ L ((Fr.refl _ _).drew)
                          have hf2zd : Fr [s, km] W2 w12.drew := hf2z.drew
                          have hrzd := hr5z.fr0 ((Fr.refl _ _).drew)
                          gi_wp2_with fail
                          refine wpIn_region_heldR (S := fun _ => True) (by kernel_rfl) (by kernel_rfl) (fun ⟨_, _, h⟩ => h) trivial (fun hHeld => ?_)
                          generalize w12.drew = w13 at *
                          clear hSz hf2z hr4z hr5z
                          have hS10 := hSzd.putF1 L hrzd hx5
                          have e4 := hSzd.gbb.cell 0 rfl
                          have e5 := hSzd.fb.cell 0 rfl
                          have f5 := hSzd.fb.frozen 0
                          have e6 := hS10.gbb.cell 0 rfl
                          have f6 := hS10.gbb.frozen 0
                          by_cases hg3 : g = 2
                          · subst hg3
                            have hw1 : IntKind.i64.wrap 1 = 1 := by decide
                            have hw4 : max (1 : Int) 2 = 2 := by decide
                            have st10 : difM p le 2 < difM p f 2 := st10
                            have hfu : Hid (full = (difT s' p le 2).go (askS ans) (u3, kn3)) := hfu
                            have hO := (⟨A, ca, p, A5, c5, le, 2, u3, kn3, hS10.putG (g2 := 2) L, ⟨by omega, by omega⟩, by omega, by omega, HS9, hfu⟩ : DfO w1 s km bp bf gb m ans full ms s' _)
                            have HO := Lib.hid hO
                            clear hO
                            refine wpAnyH_take (i := 0) (v := .slice A5 le.length c5) rfl (by kernel_rfl) (by kernel_rfl) (by kernel_rfl) (fun _ _ _ h => h) (Or.inl ⟨by rfl, fun w hSw => ?_⟩) (by assumption) ?_
                            · (try dsimp only at hSw); go_simp
                            try simp only [Act.put, List.setIfInBounds_toArray, List.set_cons_zero, List.set_cons_succ]
                            refine wpAnyH_ready (rs := [1, 4]) (by kernel_rfl) (by simp) ?_
                            refine AllReadyH.cons rfl (fun K hK => ?_) (AllReadyH.cons rfl (fun K hK => ?_) AllReadyH.nil)
                            · go_simp
                              refine hK.out _ _ (trivial) (fun hHeld => ?_)
                              clear hK K
                              try simp only [Act.put, List.setIfInBounds_toArray, List.set_cons_zero, List.set_cons_succ]
                              refine wpAnyH_take (i := 2) (v := .int .i64 1) rfl (by kernel_rfl) (by kernel_rfl) (by kernel_rfl) (fun _ _ _ h => h) (Or.inl ⟨by rfl, fun w hSw => ?_⟩) (by assumption) ?_
                              · (try dsimp only at hSw); go_simp
                              try simp only [Act.put, List.setIfInBounds_toArray, List.set_cons_zero, List.set_cons_succ]
                              refine wpAnyH_take (i := 3) (v := .int .i64 (2 : Nat)) rfl (by kernel_rfl) (by kernel_rfl) (by kernel_rfl) (fun _ _ _ h => h) (Or.inl ⟨by rfl, fun w hSw => ?_⟩) (by assumption) ?_
                              · (try dsimp only at hSw); go_simp
                              try simp only [Act.put, List.setIfInBounds_toArray, List.set_cons_zero, List.set_cons_succ]
                              refine wpAnyH_ready (rs := [4]) (by kernel_rfl) (by simp) ?_
                              refine AllReadyH.cons rfl (fun K hK => ?_) AllReadyH.nil
                              go_simp
                              refine hK.out _ _ (trivial) (fun hHeld => ?_)
                              clear hK K
                              try simp only [Act.put, List.setIfInBounds_toArray, List.set_cons_zero, List.set_cons_succ]
                              refine wpAnyH_ready (rs := [5]) (by kernel_rfl) (by simp) ?_
                              refine AllReadyH.cons rfl (fun K hK => ?_) AllReadyH.nil
                              go_simp
                              refine hK.out _ _ (trivial) (fun hHeld => ?_)
                              clear hK K
                              try simp only [Act.put, List.setIfInBounds_toArray, List.set_cons_zero, List.set_cons_succ]
                              refine wpAnyH_done (by kernel_rfl) ?_ _
                              gi_wp2_with fail
                              exact ⟨hS.clear (S := [s, km, bp, bf, gb]) hn (((hf2zd.mono (by simp)).setCell (.inl (by simp)) _).setCell (.inl (by simp)) _) (fun x hx => hx), rfl, HO.out⟩
                            · go_simp
                              refine hK.out _ _ (trivial) (fun hHeld => ?_)
                              clear hK K
                              try simp only [Act.put, List.setIfInBounds_toArray, List.set_cons_zero, List.set_cons_succ]
                              refine wpAnyH_ready (rs := [1]) (by kernel_rfl) (by simp) ?_
                              refine AllReadyH.cons rfl (fun K hK => ?_) AllReadyH.nil
                              go_simp
                              refine hK.out _ _ (trivial) (fun hHeld => ?_)
                              clear hK K
                              try simp only [Act.put, List.setIfInBounds_toArray, List.set_cons_zero, List.set_cons_succ]
                              refine wpAnyH_take (i := 2) (v := .int .i64 1) rfl (by kernel_rfl) (by kernel_rfl) (by kernel_rfl) (fun _ _ _ h => h) (Or.inl ⟨by rfl, fun w hSw => ?_⟩) (by assumption) ?_
                              · (try dsimp only at hSw); go_simp
                              try simp only [Act.put, List.setIfInBounds_toArray, List.set_cons_zero, List.set_cons_succ]
                              refine wpAnyH_take (i := 3) (v := .int .i64 (2 : Nat)) rfl (by kernel_rfl) (by kernel_rfl) (by kernel_rfl) (fun _ _ _ h => h) (Or.inl ⟨by rfl, fun w hSw => ?_⟩) (by assumption) ?_
                              · (try dsimp only at hSw); go_simp
                              try simp only [Act.put, List.setIfInBounds_toArray, List.set_cons_zero, List.set_cons_succ]
                              refine wpAnyH_ready (rs := [5]) (by kernel_rfl) (by simp) ?_
                              refine AllReadyH.cons rfl (fun K hK => ?_) AllReadyH.nil
                              go_simp
                              refine hK.out _ _ (trivial) (fun hHeld => ?_)
                              clear hK K
                              try simp only [Act.put, List.setIfInBounds_toArray, List.set_cons_zero, List.set_cons_succ]
                              refine wpAnyH_done (by kernel_rfl) ?_ _
                              gi_wp2_with fail
                              exact ⟨hS.clear (S := [s, km, bp, bf, gb]) hn (((hf2zd.mono (by simp)).setCell (.inl (by simp)) _).setCell (.inl (by simp)) _) (fun x hx => hx), rfl, HO.out⟩
                          · obtain ⟨j, rfl⟩ : ∃ j : Nat, g = j + 1 := ⟨g - 1, by omega⟩
                            have hm2 : max (j + 1 - 1) 2 = j := by omega
                            rw [hm2] at hfu st10
                            clear hm2
                            have hw1 : IntKind.i64.wrap ((j : Int) + 1 - 1) = (j : Int) := by rw [Int.add_sub_cancel]; exact IntWalk.i64_in _ (by omega)
                            have hw2 : IntKind.i64.wrap (j : Int) = (j : Int) := IntWalk.i64_in _ (by omega)
                            have hw3 : ¬ (j : Int) < 2 := by omega
                            have hw4 : max (j : Int) 2 = (j : Int) := by omega
                            have hO := (⟨A, ca, p, A5, c5, le, j, u3, kn3, hS10.putG (g2 := j) L, ⟨by omega, by omega⟩, by omega, by omega, HS9, hfu⟩ : DfO w1 s km bp bf gb m ans full ms s' _)
                            have HO := Lib.hid hO
                            clear hO
                            refine wpAnyH_take (i := 0) (v := .slice A5 le.length c5) rfl (by kernel_rfl) (by kernel_rfl) (by kernel_rfl) (fun _ _ _ h => h) (Or.inl ⟨by rfl, fun w hSw => ?_⟩) (by assumption) ?_
                            · (try dsimp only at hSw); go_simp
                            try simp only [Act.put, List.setIfInBounds_toArray, List.set_cons_zero, List.set_cons_succ]
                            refine wpAnyH_ready (rs := [1, 4]) (by kernel_rfl) (by simp) ?_
                            refine AllReadyH.cons rfl (fun K hK => ?_) (AllReadyH.cons rfl (fun K hK => ?_) AllReadyH.nil)
                            · go_simp
                              refine hK.out _ _ (trivial) (fun hHeld => ?_)
                              clear hK K
                              try simp only [Act.put, List.setIfInBounds_toArray, List.set_cons_zero, List.set_cons_succ]
                              refine wpAnyH_take (i := 2) (v := .int .i64 j) rfl (by kernel_rfl) (by kernel_rfl) (by kernel_rfl) (fun _ _ _ h => h) (Or.inl ⟨by rfl, fun w hSw => ?_⟩) (by assumption) ?_
                              · (try dsimp only at hSw); go_simp
                              try simp only [Act.put, List.setIfInBounds_toArray, List.set_cons_zero, List.set_cons_succ]
                              refine wpAnyH_take (i := 3) (v := .int .i64 (j : Nat)) rfl (by kernel_rfl) (by kernel_rfl) (by kernel_rfl) (fun _ _ _ h => h) (Or.inl ⟨by rfl, fun w hSw => ?_⟩) (by assumption) ?_
                              · (try dsimp only at hSw); go_simp
                              try simp only [Act.put, List.setIfInBounds_toArray, List.set_cons_zero, List.set_cons_succ]
                              refine wpAnyH_ready (rs := [4]) (by kernel_rfl) (by simp) ?_
                              refine AllReadyH.cons rfl (fun K hK => ?_) AllReadyH.nil
                              go_simp
                              refine hK.out _ _ (trivial) (fun hHeld => ?_)
                              clear hK K
                              try simp only [Act.put, List.setIfInBounds_toArray, List.set_cons_zero, List.set_cons_succ]
                              refine wpAnyH_ready (rs := [5]) (by kernel_rfl) (by simp) ?_
                              refine AllReadyH.cons rfl (fun K hK => ?_) AllReadyH.nil
                              go_simp
                              refine hK.out _ _ (trivial) (fun hHeld => ?_)
                              clear hK K
                              try simp only [Act.put, List.setIfInBounds_toArray, List.set_cons_zero, List.set_cons_succ]
                              refine wpAnyH_done (by kernel_rfl) ?_ _
                              gi_wp2_with fail
                              exact ⟨hS.clear (S := [s, km, bp, bf, gb]) hn (((hf2zd.mono (by simp)).setCell (.inl (by simp)) _).setCell (.inl (by simp)) _) (fun x hx => hx), rfl, HO.out⟩
                            · go_simp
                              refine hK.out _ _ (trivial) (fun hHeld => ?_)
                              clear hK K
                              try simp only [Act.put, List.setIfInBounds_toArray, List.set_cons_zero, List.set_cons_succ]
                              refine wpAnyH_ready (rs := [1]) (by kernel_rfl) (by simp) ?_
                              refine AllReadyH.cons rfl (fun K hK => ?_) AllReadyH.nil
                              go_simp
                              refine hK.out _ _ (trivial) (fun hHeld => ?_)
                              clear hK K
                              try simp only [Act.put, List.setIfInBounds_toArray, List.set_cons_zero, List.set_cons_succ]
                              refine wpAnyH_take (i := 2) (v := .int .i64 j) rfl (by kernel_rfl) (by kernel_rfl) (by kernel_rfl) (fun _ _ _ h => h) (Or.inl ⟨by rfl, fun w hSw => ?_⟩) (by assumption) ?_
                              · (try dsimp only at hSw); go_simp
                              try simp only [Act.put, List.setIfInBounds_toArray, List.set_cons_zero, List.set_cons_succ]
                              refine wpAnyH_take (i := 3) (v := .int .i64 (j : Nat)) rfl (by kernel_rfl) (by kernel_rfl) (by kernel_rfl) (fun _ _ _ h => h) (Or.inl ⟨by rfl, fun w hSw => ?_⟩) (by assumption) ?_
                              · (try dsimp only at hSw); go_simp
                              try simp only [Act.put, List.setIfInBounds_toArray, List.set_cons_zero, List.set_cons_succ]
                              refine wpAnyH_ready (rs := [5]) (by kernel_rfl) (by simp) ?_
                              refine AllReadyH.cons rfl (fun K hK => ?_) AllReadyH.nil
                              go_simp
                              refine hK.out _ _ (trivial) (fun hHeld => ?_)
                              clear hK K
                              try simp only [Act.put, List.setIfInBounds_toArray, List.set_cons_zero, List.set_cons_succ]
                              refine wpAnyH_done (by kernel_rfl) ?_ _
                              gi_wp2_with fail
                              exact ⟨hS.clear (S := [s, km, bp, bf, gb]) hn (((hf2zd.mono (by simp)).setCell (.inl (by simp)) _).setCell (.inl (by simp)) _) (fun x hx => hx), rfl, HO.out⟩
                        · rw [if_neg hb2] at hfu
                          have hd4 : (vb == 2) = false := by simpa using hb2
                          have HFU := Lib.hid hfu
                          gi_wp2_with fail
                          exact ⟨hS.clear hn hf2z (by simp), hk, u3, kn3, hSz, hE.fr hf2z (fun h0 a ha => by have := hEn a ha; simp; omega), hEn, hB1.fr hf2z (by simp; omega), hB2.fr hf2z (by simp; omega), HFU.out⟩
                case done =>
                  rintro W3 ⟨_, u, kn, hS5, hE5, _, hB1, hB2, hfu2⟩ hmk
                  rw [dif_done (by rw [HLC.out]; exact Nat.le_refl _), ← HD2.out] at hfu2
                  have hS6 := hS5.mark (by have := HZ1.out; omega) hmk
                  have hnd4 : (W1.heap.size :: ms).Nodup := List.nodup_cons.2 ⟨fun h => by have := hmsb _ h; have := HZ1.out; omega, hnd⟩
                  obtain ⟨ms3, hms3⟩ : ∃ m, m = W1.heap.size :: ms := ⟨_, rfl⟩
                  rw [← hms3] at hS6 hnd4
                  show wpR _ _ _ _ _
                  rw [show markOf W1.heap.size :: ms.map markOf = ms3.map markOf by rw [hms3]; rfl]
                  clear hms3
                  dsimp only
                  have e2 := hS6.gbb.cell 0 rfl
                  have f2 := hS6.gbb.frozen 0
                  have HFI := Lib.hid (fun h => dif_finer (t := s') hdi.out hg (show g < (minus f p).length from h) hfl)
                  rw [HDD.out] at HFI
                  refine wpR_of_wp ?_
                  by_cases hge : d.length ≤ g
                  · rw [if_pos hge] at hfu2
                    go_wp2_with fail
                    obtain ⟨f', hf'⟩ := dfAct_of (w1 := w1) (bp := bp) (bf := bf) (gb := gb) (ms := ms3)
                    exact ⟨f', ms3, A, ca, p, B, cb, f, g, u, kn, hf', hnd4, hS6, hpl, hfl, hfu2⟩
                  · rw [if_neg hge] at hfu2
                    have hmf := HFI.out (Nat.lt_of_not_le hge)
                    by_cases hge2 : 2 * g ≤ d.length
                    · have hmn : min (2 * g) d.length = 2 * g := by omega
                      rw [hmn] at hmf hfu2
                      have hw1 : IntKind.i64.wrap (2 * (g : Int)) = ((2 * g : Nat) : Int) := by rw [IntWalk.i64_in _ (by omega)]; omega
                      have hw3 : ¬ (d.length : Int) < ((2 * g : Nat) : Int) := by omega
                      have hw4 : min ((2 * g : Nat) : Int) (d.length : Int) = ((2 * g : Nat) : Int) := by omega
                      have hO := (⟨A, ca, p, B, cb, f, 2 * g, u, kn, hS6.putG L, ⟨by omega, by omega⟩, hfl, by omega, hdi, hfu2⟩ : DfO w1 s km bp bf gb m ans full ms3 s' _)
                      generalize 2 * g = g2 at *
                      have HO := Lib.hid hO
                      clear hO hge2 hmf hmn
                      go_wp2_with fail
                      obtain ⟨f', hf'⟩ := dfAct_of (w1 := w1) (bp := bp) (bf := bf) (gb := gb) (ms := ms3)
                      exact ⟨f', ms3, hf', hnd4, HO.out⟩
                    · have hmn : min (2 * g) d.length = d.length := by omega
                      rw [hmn] at hmf hfu2
                      have hw1 : IntKind.i64.wrap (2 * (g : Int)) = ((2 * g : Nat) : Int) := by rw [IntWalk.i64_in _ (by omega)]; omega
                      have hw3 : (d.length : Int) < ((2 * g : Nat) : Int) := by omega
                      have hw4 : min ((2 * g : Nat) : Int) (d.length : Int) = (d.length : Int) := by omega
                      have hw5 : ¬ ((2 * g : Nat) : Int) < (d.length : Int) := by omega
                      have hO := (⟨A, ca, p, B, cb, f, d.length, u, kn, hS6.putG L, ⟨by omega, by omega⟩, hfl, by omega, hdi, hfu2⟩ : DfO w1 s km bp bf gb m ans full ms3 s' _)
                      generalize 2 * g = g2 at *
                      have HO := Lib.hid hO
                      clear hO hge2 hmf hmn
                      go_wp2_with fail
                      obtain ⟨f', hf'⟩ := dfAct_of (w1 := w1) (bp := bp) (bf := bf) (gb := gb) (ms := ms3)
                      exact ⟨f', ms3, hf', hnd4, HO.out⟩
                case stop =>
                  rintro code W2 ⟨rfl, hO⟩ hmk
                  refine wpR_of_wp ?_
                  go_wp2
                  obtain ⟨f', hf'⟩ := dfAct_of (w1 := w1) (bp := bp) (bf := bf) (gb := gb) (ms := W1.heap.size :: ms)
                  exact ⟨f', _, hf', List.nodup_cons.2 ⟨fun h => by have := hmsb _ h; have := HZ1.out; omega, hnd⟩, hO.mark (by have := HZ1.out; omega) hmk⟩
                case pan =>
                  rintro ch W2 hQ hmk
                  exact ⟨W1.heap.size :: ms, rfl, List.nodup_cons.2 ⟨fun h => by have := hmsb _ h; have := HZ1.out; omega, hnd⟩, hQ.mark (by have := HZ1.out; omega) hmk⟩
              · have hd : decide ((f.length : Int) ≥ (p.length : Int) + 2) = false := by simp; omega
                have hdw : IntKind.i64.wrap ((p.length : Int) + 2) = (p.length : Int) + 2 := IntWalk.i64_in _ (by omega)
                rw [difT_one h2] at hfu
                unfold DfAct
                refine wpR_seq (wpR_of_wp ?_)
                go_wp2_with fail
                obtain ⟨f', hf'⟩ := dfAct_of (w1 := w1) (bp := bp) (bf := bf) (gb := gb) (ms := ms)
                exact ⟨f', ms, A, ca, p, B, cb, f, g, u, kn, hf', hnd, hS, hpl, hfl, hfu⟩
          case rest =>
            clear hO
            rintro e a W h
            cases e <;> first | exact h.elim | skip
            case panic ch =>
              obtain ⟨ms, hd, hnd, hQ⟩ := h
              show LeavesInM _ _ _ _ _ _ _ _ _
              rw [hd]
              exact leaves_marks _ (by simp) ms W hnd hQ.mk' fun W' hf' => hQ.leave L hf'
            case normal =>
              obtain ⟨f, ms, A, ca, p, B, cb, fl, g, u, kn, rfl, hnd, hS, hpl, hfl, hfu⟩ := h
              refine wpR_of_wp ?_
              unfold DfAct
              go_wp2
              refine leaves_marks .returning (by simp) ms W hnd (fun D hD => (hS.marks D hD).2) fun W' hf' => ?_
              refine ⟨_, results_tmp rfl _ _ _, ?_⟩
              exact hS.leave L hpl hfl hfu.out hf'
        · have hb2 : (v2 == 2) = false := by simpa using hv2
          rw [if_neg hv2] at hfl
          have hR : Hid (full = .inr ((7, [], []), (u2, kn2))) := hfl
          clear hfl hv2
          go_wp2_with fail
          refine (fails_got s km ans u kn A2 c2 all w4 hsk4 hr4 (by omega) (i64_of HUS.out (by omega)) (ht.fr hw04) HQ2.out).mono ?_
          rw [hb2]
          rintro e w5 ⟨rfl, hf5, hsk5⟩
          obtain ⟨hj, hfj⟩ := HCN.out w5 (hf4.trans hf5)
          go_wp2
          refine leaves_marks .returning (by simp) [] w5 (by simp) (by simp) fun W' hf' => ?_
          refine ⟨_, results_tmp rfl _ _ _, ?_⟩
          rw [hR.out]
          obtain ⟨pp, ff, j1, j2, j3, j4⟩ := hj
          exact ⟨rfl, (hsk5.fr0 hf').srch, hfj.trans0 hf', pp, ff, j1.fr0 hf', j2.fr0 hf', j3, j4, by simp⟩
    · have hb : (v == 1) = false := by simpa using hv
      rw [if_neg hv] at hfl
      have hR : Hid (full = .inr ((7, [], []), (u, kn))) := hfl
      clear hfl hv
      go_wp2_with fail
      refine (passes_got s km ans 0 [] none 0 [] w3 hsk3 (hn' _) (by simp) (by intro x hx; simp at hx) (ht.fr hw03) HQ.out).mono ?_
      rw [hb]
      rintro e w5 ⟨rfl, hf5, hsk5⟩
      obtain ⟨hj, hfj⟩ := HCN.out w5 hf5
      go_wp2
      refine leaves_marks .returning (by simp) [] w5 (by simp) (by simp) fun W' hf' => ?_
      refine ⟨_, results_tmp rfl _ _ _, ?_⟩
      rw [hR.out]
      obtain ⟨pp, ff, j1, j2, j3, j4⟩ := hj
      exact ⟨rfl, (hsk5.fr0 hf').srch, hfj.trans0 hf', pp, ff, j1.fr0 hf', j2.fr0 hf', j3, j4, by simp⟩
end Go.Proofs.YtjpbmbonccenfaaDoor

/- Difference of the program. -/
namespace Go.Proofs.YtjpbmbonccenfaaDoor
open Go.RowKit
set_option linter.unusedVariables false

theorem enter_dif (args : Array Value) (w : World) : (callFunc 82 args).run Tryd.prog w = .ok (.enter 82 args) w := by
  simp [go_sem]

set_option maxRecDepth 100000 in
set_option maxHeartbeats 6400000 in
theorem Difference_any (D : Option Addr) (d : Nat) (n : Int) (ans : List Int) (w : World) (hd : Rd w (.int .u8) D d ans) (htab : Tab w) :
    Calls Tryd.prog 31 #[.int .i64 n, .slice D ans.length d] w (RetQstF w.heap.size w (differenceOf n ans)) := by
  have hn : ∀ W : World, Rd W (.int .i64) none 0 ([] : List Int) ∧ Nw w.heap.size none := fun W => ⟨Rd.nil_ W _, Nw.none_ _⟩
  have hmf : ∀ (fn : Fn) (first cap : Array Value) (w : World), (Instr.makeFunc fn first cap).run Tryd.prog w = .ok (.func fn first cap) w := fun _ _ _ _ => rfl
  obtain ⟨W, hW⟩ : ∃ W, W = ((w.alloc (.cells #[.int .i64 n] 3)).alloc (.cells #[.bool false, .slice none 0 0, .slice none 0 0, .slice none 0 0] 34)) := ⟨_, rfl⟩
  have hsz : W.heap.size = w.heap.size + 2 := by rw [hW]; simp
  have hfW : Fr [] w W := by rw [hW]; exact (by repeat (first | exact Fr.refl _ _ | assumption | apply Fr.drewN | apply Fr.drew | apply Fr.alloc | refine Fr.setCell ?_ (by simp) _))
  have hbN : Blk W w.heap.size 3 #[.int .i64 n] := by rw [hW]; exact (Blk.new w _ _ _ rfl).alloc _
  have hbQ : Blk W (w.heap.size + 1) 34 #[.bool false, .slice none 0 0, .slice none 0 0, .slice none 0 0] := by rw [hW]; exact Blk.new (w.alloc _) _ _ _ (by simp)
  have q0 := ((Blk.new w 3 #[.int .i64 n] _ rfl).alloc (.cells #[.bool false, .slice none 0 0, .slice none 0 0, .slice none 0 0] 34)).cell 0 rfl
  have HW := Lib.hid hW.symm
  by_cases h256 : 256 < n
  · have hcb : decide (n > 256) = true := by simpa using h256
    have hR : Hid (differenceOf n ans = (qNone, 3)) := by show _ = _; unfold differenceOf; rw [if_pos h256]
    have qc0 := hbQ.cell 0 rfl
    have qc1 := hbQ.cell 1 rfl
    have qc2 := hbQ.cell 2 rfl
    have qc3 := hbQ.cell 3 rfl
    have qd0 := hbQ.frozen 0
    have qd1 := hbQ.frozen 1
    have qd2 := hbQ.frozen 2
    have qd3 := hbQ.frozen 3
    rw [hW] at qc0 qc1 qc2 qc3 qd0 qd1 qd2 qd3
    clear hW
    go_enter Tryd.func31, Tryd.ntmps31
    go_wp2_with fail
    rw [HW.out]
    refine bodyPost_ret (results_qst rfl _ _ (w.heap.size + 1) rfl hbQ) rfl ?_
    rw [hR.out]
    exact ⟨_, rfl, hfW, none, 0, none, 0, none, 0, rfl, hn _, hn _, hn _⟩
  · have hcb : decide (n > 256) = false := by simpa using h256
    have hR0 : Hid (differenceOf n ans = qOf ans (differT n.toNat)) := by show _ = _; unfold differenceOf; rw [if_neg h256]
    obtain ⟨w3, hw3⟩ : ∃ w3, w3 = (W.alloc (.cells #[.slice none 0 0] 22)).alloc (.cells #[.slice none 0 0] 22) := ⟨_, rfl⟩
    have hP3 : Blk w3 (w.heap.size + 1 + 1) 22 #[.slice none 0 0] := by rw [hw3]; exact (Blk.new W _ _ _ (by omega)).alloc _
    have hC3 : Blk w3 (w.heap.size + 1 + 1 + 1) 22 #[.slice none 0 0] := by rw [hw3]; exact Blk.new (W.alloc _) _ _ _ (by simp; omega)
    have hN3 : Blk w3 w.heap.size 3 #[.int .i64 n] := by rw [hw3]; exact (hbN.alloc _).alloc _
    have hB3 : Blk w3 (w.heap.size + 1) 34 #[.bool false, .slice none 0 0, .slice none 0 0, .slice none 0 0] := by rw [hw3]; exact (hbQ.alloc _).alloc _
    have hF3 : Fr [] w w3 := by rw [hw3]; exact (hfW.alloc _).alloc _
    have hz3 : w3.heap.size = w.heap.size + 4 := by rw [hw3]; simp; omega
    have HW3 : Hid ((((w.alloc (.cells #[.int .i64 n] 3)).alloc (.cells #[.bool false, .slice none 0 0, .slice none 0 0, .slice none 0 0] 34)).alloc (.cells #[.slice none 0 0] 22)).alloc (.cells #[.slice none 0 0] 22) = w3) := by show _ = _; rw [hw3, hW]
    clear hw3 hW
    have hdr := hd.fr0 hF3
    go_enter Tryd.func31, Tryd.ntmps31
    go_wp2_with fail
    rw [HW3.out]
    by_cases h4 : 4096 < ans.length
    · have hR : Hid (differenceOf n ans = (qNone, 3)) := by show _ = _; rw [hR0.out]; unfold qOf; rw [if_pos h4]
      go_wp2_with fail
      refine (run_limit _ D d ans _ hdr h4).mono ?_
      rintro e w5 ⟨rfl, hf5⟩
      have hC5 := hC3.fr hf5 (by simp)
      have k5 := hC5.cell 0 rfl
      have hB5 := hB3.fr hf5 (by simp)
      have hF5 := hF3.trans hf5
      go_wp2_with fail
      refine (quest_any none none 0 0 [] (([] : List Int)) false 3 _ (Rd.nil_ _ _) (Rd.nil_ _ _) (by simp) w.heap.size hF5.size (Nw.none_ _)).mono ?_
      rw [show questOf [] (([] : List Int)) false 3 = (⟨false, [], [], []⟩, (3 : Int)) by simp [questOf, qNone]]
      rintro e w6 ⟨vq, rfl, hf6, A1, a1, B1, b1, C1, c1, rfl, ⟨hq1, n1⟩, ⟨hq2, n2⟩, hq3, n3⟩
      obtain ⟨W6, hW6⟩ : ∃ W6, W6 = w6.alloc (.cells #[.bool false, .slice A1 0 a1, .slice B1 0 b1, .slice C1 0 c1] 34) := ⟨_, rfl⟩
      have hQ : Blk W6 w6.heap.size 34 #[.bool false, .slice A1 0 a1, .slice B1 0 b1, .slice C1 0 c1] := by rw [hW6]; exact Blk.new _ _ _ _ rfl
      have hf66 : Fr [] w6 W6 := by rw [hW6]; exact (Fr.refl _ _).alloc _
      have hB6 := (hB5.fr hf6 (by simp)).fr hf66 (by simp)
      have hF6 := (hF5.trans hf6).trans hf66
      have HW6 := Lib.hid hW6.symm
      have m0 := hQ.cell 0 rfl
      have m1 := hQ.cell 1 rfl
      have m2 := hQ.cell 2 rfl
      have m3 := hQ.cell 3 rfl
      have qc0 := hB6.cell 0 rfl
      have qc1 := hB6.cell 1 rfl
      have qc2 := hB6.cell 2 rfl
      have qc3 := hB6.cell 3 rfl
      have qd0 := hB6.frozen 0
      have qd1 := hB6.frozen 1
      have qd2 := hB6.frozen 2
      have qd3 := hB6.frozen 3
      rw [hW6] at m0 m1 m2 m3 qc0 qc1 qc2 qc3 qd0 qd1 qd2 qd3
      clear hW6
      go_wp2_with fail
      rw [HW6.out]
      refine bodyPost_ret (results_qst rfl _ _ (w.heap.size + 1) rfl (hB6.four _ _ _ _)) rfl ?_
      rw [hR.out]
      exact qstF_ret (by omega) hF6 hB6 ⟨hq1.fr0 hf66, n1⟩ ⟨hq2.fr0 hf66, n2⟩ ⟨hq3.fr0 hf66, n3⟩
    · obtain ⟨full, hful⟩ : ∃ f, (differT n.toNat).go (askS ans) (0, []) = f := ⟨_, rfl⟩
      have hR : Hid (differenceOf n ans = finT ans full) := by show _ = _; rw [hR0.out, qOf_fin h4, hful]
      have hdo : ∀ w1, AtDo w3 w1 ans → Calls Tryd.prog 82 (#[.pointer (some ⟨w3.heap.size + 1 + 1, 0, none⟩)] ++ #[.pointer (some ⟨w.heap.size, 0, none⟩), .pointer (some ⟨w.heap.size + 1 + 1 + 1, 0, none⟩), .pointer (some ⟨w.heap.size + 1 + 1, 0, none⟩)]) w1
          (DifDo w1 (w3.heap.size + 1 + 1) (w3.heap.size + 1) (w.heap.size + 1 + 1) (w.heap.size + 1 + 1 + 1) w3.heap.size (w3.heap.size + 3) ans ((differT n.toNat).go (askS ans) (0, []))) := fun w1 hat => by
        have hz := hat.size
        rw [← hz]
        have hb1 := hat.fr.size
        exact difdo_any (w3.heap.size + 1 + 1) (w3.heap.size + 1) w.heap.size (w.heap.size + 1 + 1) (w.heap.size + 1 + 1 + 1) w3.heap.size ans w w1 n ⟨hF3.trans hat.fr, by omega, by omega, by omega, by omega, by omega, by omega, by omega, by omega⟩ htab (by omega) (by omega) (by omega) (by omega) hat.sk (hN3.fr hat.fr (by simp)) (hP3.fr hat.fr (by simp)) (hC3.fr hat.fr (by simp))
      rw [hful] at hdo
      have h4' : ans.length ≤ 4096 := by omega
      have hS : ∀ x ∈ [(w.heap.size + 1 + 1), (w.heap.size + 1 + 1 + 1)], x < w3.heap.size := by simp; omega
      clear hful h4 hR0
      rcases full with q | ⟨⟨er, kept, pass⟩, u, kn⟩
      · go_wp2_with fail
        refine (run_ask w3 D d ans 82 _ _ hS _ q hdr h4' enter_dif hdo).mono ?_
        rintro e w5 ⟨A3, c3, rfl, hr3, hf5, hnw, wd, ⟨p, f, hcp, hcf, hpl, hfl⟩, hfd⟩
        clear hdo
        have hcf5 := hcf.fr hfd (by simp; omega) (by intro x hx; simp at hx; subst hx; exact .inl (out_s (Nat.le_refl _) (by omega)))
        obtain ⟨A6, c6, hbk6, hcr6, _⟩ := hcf5
        have k5 := hbk6.cell 0 rfl
        have hB5 := hB3.fr hf5 (by simp)
        have hf05 : Fr [] w w5 := hF3.trans2 hf5 (by simp; omega)
        have hz05 := hf05.size
        go_wp2_with fail
        refine (quest_any A3 A6 c3 c6 q f false 0 _ hr3 hcr6 (by omega) w.heap.size hz05 (hnw.mono hF3.size)).mono ?_
        have hR2 : Hid (differenceOf n ans = (⟨false, q, [], []⟩, 0)) := hR
        rw [show questOf q f false 0 = (⟨false, q, [], []⟩, (0 : Int)) by simp [questOf]]
        clear hR
        rintro e w6 ⟨vq, rfl, hf6, A1, a1, B1, b1, C1, c1, rfl, ⟨hq1, n1⟩, ⟨hq2, n2⟩, hq3, n3⟩
        obtain ⟨W6, hW6⟩ : ∃ W6, W6 = w6.alloc (.cells #[.bool false, .slice A1 q.length a1, .slice B1 0 b1, .slice C1 0 c1] 34) := ⟨_, rfl⟩
        have hQ : Blk W6 w6.heap.size 34 #[.bool false, .slice A1 q.length a1, .slice B1 0 b1, .slice C1 0 c1] := by rw [hW6]; exact Blk.new _ _ _ _ rfl
        have hf66 : Fr [] w6 W6 := by rw [hW6]; exact (Fr.refl _ _).alloc _
        have hB6 := (hB5.fr hf6 (by simp)).fr hf66 (by simp)
        have hF6 := (hf05.trans hf6).trans hf66
        have HW6 := Lib.hid hW6.symm
        have m0 := hQ.cell 0 rfl
        have m1 := hQ.cell 1 rfl
        have m2 := hQ.cell 2 rfl
        have m3 := hQ.cell 3 rfl
        have qc0 := hB6.cell 0 rfl
        have qc1 := hB6.cell 1 rfl
        have qc2 := hB6.cell 2 rfl
        have qc3 := hB6.cell 3 rfl
        have qd0 := hB6.frozen 0
        have qd1 := hB6.frozen 1
        have qd2 := hB6.frozen 2
        have qd3 := hB6.frozen 3
        rw [hW6] at m0 m1 m2 m3 qc0 qc1 qc2 qc3 qd0 qd1 qd2 qd3
        clear hW6
        go_wp2_with fail
        rw [HW6.out]
        refine bodyPost_ret (results_qst rfl _ _ (w.heap.size + 1) rfl (hB6.four _ _ _ _)) rfl ?_
        rw [hR2.out]
        exact qstF_ret (by omega) hF6 hB6 ⟨hq1.fr0 hf66, n1⟩ ⟨hq2.fr0 hf66, n2⟩ ⟨hq3.fr0 hf66, n3⟩
      · go_wp2_with fail
        refine (run_end w3 D d ans 82 _ _ hS _ er u hdr h4' enter_dif hdo).mono ?_
        rintro e w5 ⟨rfl, hf5, wd, ⟨p, f, hcp, hcf, hpl, hfl, hck⟩, hfd⟩
        clear hdo
        have hcf5 := hcf.fr hfd (by simp; omega) (by intro x hx; simp at hx; subst hx; exact .inl (out_s (Nat.le_refl _) (by omega)))
        have hcp5 := hcp.fr hfd (by simp; omega) (by intro x hx; simp at hx; subst hx; exact .inl (out_s (Nat.le_refl _) (by omega)))
        obtain ⟨A6, c6, hbk6, hcr6, _⟩ := hcf5
        obtain ⟨A7, c7, hbk7, hcr7, _⟩ := hcp5
        have k5 := hbk6.cell 0 rfl
        have hB5 := hB3.fr hf5 (by simp)
        have hf05 : Fr [] w w5 := hF3.trans2 hf5 (by simp; omega)
        have hz05 := hf05.size
        by_cases hdn : er = 0 ∧ ans.length ≤ u
        · obtain ⟨rfl, hul⟩ := hdn
          obtain ⟨rfl, rfl⟩ := hck rfl
          have hd1 : decide ((0 : Int) = 0 ∧ ans.length ≤ u) = true := by simpa using hul
          have hd2 : (if (0 : Int) ≠ 0 then (0 : Int) else if u < ans.length then 8 else 0) = 0 := by rw [if_neg (by simp), if_neg (by omega)]
          rw [hd1, hd2]
          have hR2 : Hid (differenceOf n ans = (⟨true, [], f, p⟩, 0)) := by
            show _ = _
            rw [hR.out]
            have : decide (u < ans.length) = false := by simp; omega
            simp [finT, endOf, this]
          clear hR hck hd1 hd2 hul
          go_wp2_with fail
          refine (quest_any none A6 0 c6 [] f true 0 _ (Rd.nil_ _ _) hcr6 (by omega) w.heap.size hz05 (Nw.none_ _)).mono ?_
          rw [show questOf [] f true 0 = (⟨true, [], f, []⟩, (0 : Int)) by simp [questOf]]
          rintro e w6 ⟨vq, rfl, hf6, A1, a1, B1, b1, C1, c1, rfl, ⟨hq1, n1⟩, ⟨hq2, n2⟩, hq3, n3⟩
          obtain ⟨W6, hW6⟩ : ∃ W6, W6 = w6.alloc (.cells #[.bool true, .slice A1 0 a1, .slice B1 f.length b1, .slice C1 0 c1] 34) := ⟨_, rfl⟩
          have hQ : Blk W6 w6.heap.size 34 #[.bool true, .slice A1 0 a1, .slice B1 f.length b1, .slice C1 0 c1] := by rw [hW6]; exact Blk.new _ _ _ _ rfl
          have hf66 : Fr [] w6 W6 := by rw [hW6]; exact (Fr.refl _ _).alloc _
          have hB6 := (hB5.fr hf6 (by simp)).fr hf66 (by simp)
          have hF6 := (hf05.trans hf6).trans hf66
          have hP6 := (hbk7.fr hf6 (by simp)).fr hf66 (by simp)
          have hp6 := (hcr7.fr0 hf6).fr0 hf66
          have HW6 := Lib.hid hW6.symm
          have m0 := hQ.cell 0 rfl
          have k7 := hP6.cell 0 rfl
          have hz6 := hf6.size
          rw [hW6] at m0 k7
          clear hW6
          go_wp2_with fail
          rw [HW6.out]
          refine (fresh_any A7 c7 p W6 hp6 (by omega)).mono ?_
          simp only [RetOwn, List.length_map]
          rintro e w7 ⟨A8, c8, rfl, hf7, ho8⟩
          have hQ7 := hQ.fr hf7 (by simp)
          have hB7 := hB6.fr hf7 (by simp)
          have hF7 := hF6.trans hf7
          have hq8 : Rd w7 (.int .i64) A8 c8 p := own_rd ho8 rfl rfl
          have n8 : Nw w.heap.size A8 := (Nw.own ho8).mono hF6.size
          have g1 := (hq1.fr0 hf66).fr0 hf7
          have g2 := (hq2.fr0 hf66).fr0 hf7
          have hQ8 := hQ7.set_ 3 (.slice A8 p.length c8)
          have hz35 := hf5.size
          have hB8 := hB7.far (p := ⟨w6.heap.size, 3, none⟩) (by show w.heap.size + 1 ≠ w6.heap.size; omega) (.slice A8 p.length c8)
          have hF8 : Fr [] w _ := hF7.setCell (p := ⟨w6.heap.size, 3, none⟩) (.inr (by show w.heap.size ≤ w6.heap.size; omega)) (.slice A8 p.length c8)
          have g3 := hq8.setCell (p := ⟨w6.heap.size, 3, none⟩) (fun h0 a ha => by have := Nw.own ho8 a ha; have := hQ.lt; show a.block ≠ w6.heap.size; omega) (.slice A8 p.length c8)
          have g1' := g1.setCell (p := ⟨w6.heap.size, 3, none⟩) (g1.apartQ hQ7) (.slice A8 p.length c8)
          have g2' := g2.setCell (p := ⟨w6.heap.size, 3, none⟩) (g2.apartQ hQ7) (.slice A8 p.length c8)
          clear ho8 m0 k7
          have m3 := hQ7.cell 3 rfl
          have m3f := hQ7.frozen 3
          simp only [List.setIfInBounds_toArray, List.set_cons_zero, List.set_cons_succ] at hQ8
          have o0 := hQ8.cell 0 rfl
          have o1 := hQ8.cell 1 rfl
          have o2 := hQ8.cell 2 rfl
          have o3 := hQ8.cell 3 rfl
          have qc0 := hB8.cell 0 rfl
          have qc1 := hB8.cell 1 rfl
          have qc2 := hB8.cell 2 rfl
          have qc3 := hB8.cell 3 rfl
          have qd0 := hB8.frozen 0
          have qd1 := hB8.frozen 1
          have qd2 := hB8.frozen 2
          have qd3 := hB8.frozen 3
          go_wp2_with fail
          refine bodyPost_ret (results_qst rfl _ _ (w.heap.size + 1) rfl (hB8.four _ _ _ _)) rfl ?_
          rw [hR2.out]
          exact qstF_ret (by omega) hF8 hB8 ⟨g1', n1⟩ ⟨g2', n2⟩ ⟨g3, n8⟩
        · have hd1 : decide (er = 0 ∧ ans.length ≤ u) = false := by simpa using hdn
          obtain ⟨er2, her2⟩ : ∃ x, (if er ≠ 0 then er else if u < ans.length then 8 else 0) = x := ⟨_, rfl⟩
          have hne : er2 ≠ 0 := by
            rw [← her2]
            by_cases h0 : er = 0
            · rw [if_neg (by simp [h0]), if_pos (by have := fun h => hdn ⟨h0, h⟩; omega)]; simp
            · rw [if_pos h0]; exact h0
          rw [hd1, her2]
          have hR2 : Hid (differenceOf n ans = (qNone, er2)) := by
            show _ = _
            rw [hR.out, ← her2]
            simp only [finT, endOf]
            by_cases h0 : er = 0
            · have hu : u < ans.length := by have := fun h => hdn ⟨h0, h⟩; omega
              simp [h0, hu]
            · simp [h0]
          have hqe : questOf [] f false er2 = (⟨false, [], [], []⟩, er2) := by unfold questOf; rw [if_pos hne]; rfl
          have HQE := Lib.hid hqe
          clear hR hck hd1 hdn her2 hne hqe
          go_wp2_with fail
          refine (quest_any none A6 0 c6 [] f false er2 _ (Rd.nil_ _ _) hcr6 (by omega) w.heap.size hz05 (Nw.none_ _)).mono ?_
          rw [HQE.out]
          rintro e w6 ⟨vq, rfl, hf6, A1, a1, B1, b1, C1, c1, rfl, ⟨hq1, n1⟩, ⟨hq2, n2⟩, hq3, n3⟩
          obtain ⟨W6, hW6⟩ : ∃ W6, W6 = w6.alloc (.cells #[.bool false, .slice A1 0 a1, .slice B1 0 b1, .slice C1 0 c1] 34) := ⟨_, rfl⟩
          have hQ : Blk W6 w6.heap.size 34 #[.bool false, .slice A1 0 a1, .slice B1 0 b1, .slice C1 0 c1] := by rw [hW6]; exact Blk.new _ _ _ _ rfl
          have hf66 : Fr [] w6 W6 := by rw [hW6]; exact (Fr.refl _ _).alloc _
          have hB6 := (hB5.fr hf6 (by simp)).fr hf66 (by simp)
          have hF6 := (hf05.trans hf6).trans hf66
          have HW6 := Lib.hid hW6.symm
          have m0 := hQ.cell 0 rfl
          have m1 := hQ.cell 1 rfl
          have m2 := hQ.cell 2 rfl
          have m3 := hQ.cell 3 rfl
          have qc0 := hB6.cell 0 rfl
          have qc1 := hB6.cell 1 rfl
          have qc2 := hB6.cell 2 rfl
          have qc3 := hB6.cell 3 rfl
          have qd0 := hB6.frozen 0
          have qd1 := hB6.frozen 1
          have qd2 := hB6.frozen 2
          have qd3 := hB6.frozen 3
          rw [hW6] at m0 m1 m2 m3 qc0 qc1 qc2 qc3 qd0 qd1 qd2 qd3
          clear hW6
          go_wp2_with fail
          rw [HW6.out]
          refine bodyPost_ret (results_qst rfl _ _ (w.heap.size + 1) rfl (hB6.four _ _ _ _)) rfl ?_
          rw [hR2.out]
          exact qstF_ret (by omega) hF6 hB6 ⟨hq1.fr0 hf66, n1⟩ ⟨hq2.fr0 hf66, n2⟩ ⟨hq3.fr0 hf66, n3⟩
end Go.Proofs.YtjpbmbonccenfaaDoor
