/- Texts of this seat, one behind the other: Close. -/
import Derived.Test.YtjpbmbonccenfaaDoort24
import Derived.WalkSpells
/- closed, Close. -/
namespace Go.Proofs.YtjpbmbonccenfaaDoor
open Go.RowKit
set_option linter.unusedVariables false

/-- Is a number set? -/
def inB (bs : List Bool) (i : Int) : Bool := decide (0 ≤ i) && bs.getD i.toNat false
/-- What a change needs. -/
def needsOf (L : List (List Int)) (x : Int) : List Int := L.getD x.toNat []
/-- The smallest closed set that contains a set. -/
structure IsCl (L : List (List Int)) (set : List Int) (C : Int → Bool) : Prop where
  base : ∀ x ∈ set, C x = true
  step : ∀ x, C x = true → ∀ y ∈ needsOf L x, C y = true
  least : ∀ D : Int → Bool, (∀ x ∈ set, D x = true) → (∀ x, D x = true → ∀ y ∈ needsOf L x, D y = true) → ∀ x, C x = true → D x = true

/-- Between two rounds: what is in, what is still to do. -/
structure ClInv (L : List (List Int)) (set : List Int) (bs : List Bool) (T : List Int) : Prop where
  base : ∀ x ∈ set, inB bs x = true ∨ x ∈ T
  step : ∀ x, inB bs x = true → ∀ y ∈ needsOf L x, inB bs y = true ∨ y ∈ T
  least : ∀ D : Int → Bool, (∀ x ∈ set, D x = true) → (∀ x, D x = true → ∀ y ∈ needsOf L x, D y = true) → (∀ x, inB bs x = true → D x = true) ∧ ∀ x ∈ T, D x = true

theorem inB_set {bs : List Bool} {x : Int} (h0 : 0 ≤ x) (h1 : x.toNat < bs.length) (i : Int) : inB (bs.set x.toNat true) i = (inB bs i || decide (i = x)) := by
  unfold inB
  by_cases hi : 0 ≤ i
  · by_cases he : i = x
    · subst he; simp [hi, h1]
    · have : x.toNat ≠ i.toNat := by omega
      simp [hi, he, List.getElem?_set_ne this]
  · have : ¬ i = x := by omega
    simp [hi, this]
theorem ClInv.start (L : List (List Int)) (set : List Int) (n : Nat) : ClInv L set (List.replicate n false) set := by
  have h : ∀ x, inB (List.replicate n false) x = false := fun x => by
    unfold inB
    by_cases hx : x.toNat < n <;> simp [hx]
  exact ⟨fun x hx => .inr hx, (fun x hx => by rw [h] at hx; cases hx), fun D h1 _ => ⟨(fun x hx => by rw [h] at hx; cases hx), h1⟩⟩
theorem ClInv.old {L : List (List Int)} {set T : List Int} {bs : List Bool} {x : Int} (h : ClInv L set bs (T ++ [x])) (hx : inB bs x = true) : ClInv L set bs T := by
  refine ⟨fun y hy => ?_, fun y hy z hz => ?_, fun D h1 h2 => ⟨(h.least D h1 h2).1, fun y hy => (h.least D h1 h2).2 y (by simp [hy])⟩⟩
  · rcases h.base y hy with h1 | h1
    · exact .inl h1
    · rcases List.mem_append.1 h1 with h1 | h1
      · exact .inr h1
      · simp at h1; subst h1; exact .inl hx
  · rcases h.step y hy z hz with h1 | h1
    · exact .inl h1
    · rcases List.mem_append.1 h1 with h1 | h1
      · exact .inr h1
      · simp at h1; subst h1; exact .inl hx
theorem ClInv.new_ {L : List (List Int)} {set T l : List Int} {bs : List Bool} {x : Int} (h : ClInv L set bs (T ++ [x])) (h0 : 0 ≤ x) (h1 : x.toNat < bs.length) (hl : needsOf L x = l) : ClInv L set (bs.set x.toNat true) (T ++ l) := by
  have hs := inB_set h0 h1
  refine ⟨fun y hy => ?_, fun y hy z hz => ?_, fun D d1 d2 => ?_⟩
  · rw [hs]
    rcases h.base y hy with a | a
    · simp [a]
    · rcases List.mem_append.1 a with a | a
      · exact .inr (by simp [a])
      · simp at a; subst a; simp
  · rw [hs] at hy ⊢
    rcases Bool.or_eq_true _ _ ▸ hy with a | a
    · rcases h.step y a z hz with b | b
      · simp [b]
      · rcases List.mem_append.1 b with b | b
        · exact .inr (by simp [b])
        · simp at b; subst b; simp
    · simp at a; subst a
      rw [hl] at hz
      exact .inr (by simp [hz])
  · have hd := h.least D d1 d2
    have hx : D x = true := hd.2 x (by simp)
    refine ⟨fun y hy => ?_, fun y hy => ?_⟩
    · rw [hs] at hy
      rcases Bool.or_eq_true _ _ ▸ hy with a | a
      · exact hd.1 y a
      · simp at a; subst a; exact hx
    · rcases List.mem_append.1 hy with a | a
      · exact hd.2 y (by simp [a])
      · exact d2 x hx y (by rw [hl]; exact a)
theorem ClInv.done {L : List (List Int)} {set : List Int} {bs : List Bool} (h : ClInv L set bs []) : IsCl L set (inB bs) :=
  ⟨fun x hx => (h.base x hx).resolve_right (by simp), fun x hx y hy => (h.step x hx y hy).resolve_right (by simp), fun D d1 d2 => (h.least D d1 d2).1⟩

/-- How much is still to come. -/
def wt : List (List Int) → List Bool → Nat
  | l :: L, b :: bs => (if b then 0 else l.length + 1) + wt L bs
  | _, _ => 0
theorem wt_set : ∀ {L : List (List Int)} {bs : List Bool} {k : Nat} {l : List Int}, bs[k]? = some false → L[k]? = some l → wt L (bs.set k true) + (l.length + 1) = wt L bs
  | [], _, _, _, _, h => by simp at h
  | _ :: _, [], _, _, h, _ => by simp at h
  | l0 :: L, b :: bs, 0, l, h, h' => by
    simp at h h'
    subst h h'
    simp [wt]; omega
  | l0 :: L, b :: bs, k + 1, l, h, h' => by
    have := wt_set (L := L) (bs := bs) (k := k) (l := l) (by simpa using h) (by simpa using h')
    simp [wt]; omega

/-- All numbers in range. -/
def InR (n : Nat) (T : List Int) : Prop := ∀ x ∈ T, 0 ≤ x ∧ x < n

def ClosedPost (w : World) (L : List (List Int)) (set : List Int) (e : Ending) (w' : World) : Prop :=
  ∃ bs : List Bool, bs.length = L.length ∧ IsCl L set (inB bs) ∧ RetN w 3 (pickedOf bs) e w'

/-- The loop's relation. -/
def ClRel (w : World) (L : List (List Int)) (set : List Int) (B0 B1 t : Nat) (v : Value) (wr : World) : Prop :=
  ∃ (bs : List Bool) (T : List Int) (A : Option Addr) (n c : Nat), v = .slice A n c ∧ Hid (n = T.length) ∧ wr.ownsRow B1 3 1 (.slice A n c) n (T.map (.int .i64)) ∧
    Blk wr B0 4 (bs.map Value.bool).toArray ∧ bs.length = L.length ∧ Hid (InR L.length T) ∧ Hid (ClInv L set bs T) ∧ Hid (t = n + wt L bs) ∧ t ≤ 1000000 ∧ Fr [] w wr

theorem elemBools2 : Elem Tryd.prog 123 4 (.bool false) 1 1 := ⟨Tryd.underlying123, by kernel_rfl, rfl, by omega, by omega⟩

theorem makeBools {P : Program} {t e : TypeId} {w0 : World} {H n : Nat} (h : w0.ownsRow H e 1 (.slice (some ⟨H, 0, none⟩) n n) n (List.replicate n (.bool false))) (hn : 0 < n ∨ ∃ cs, w0.heap[H]? = some (.cells cs e (0, 0)) ∧ cs.size = n) : Blk w0 H e ((List.replicate n false).map Value.bool).toArray := by
  rcases h.2 with ⟨he, _⟩ | ⟨g', cap, cur, he, _, hh, hnc, _, hsz, htk⟩
  · simp at he
  · injection he with e1 e2 e3
    injection e1 with e1
    injection e1 with e1
    subst e1 e3
    have : cur = ((List.replicate n false).map Value.bool).toArray := by
      have hc : cur.toList.length = n := by simp [hsz]
      rw [List.take_of_length_le (by omega)] at htk
      simp only [List.map_replicate]
      rw [← htk]
    subst this
    exact hh

set_option maxHeartbeats 1600000 in
theorem closed_any (A B : Option Addr) (c d : Nat) (L : List (List Int)) (set : List Int) (w : World) (ha : Rss w A c L) (hb : Rd w (.int .i64) B d set) (hL : ∀ l ∈ L, InR L.length l) (hs : InR L.length set)
    (hbig : set.length + wt L (List.replicate L.length false) ≤ 1000000) (hn : L.length ≤ 1000000) :
    Calls Tryd.prog 101 #[.slice A L.length c, .slice B set.length d] w (ClosedPost w L set) := by
  go_enter Tryd.func101, Tryd.ntmps101
  go_wp2_with (at_make; refine wpList_makeN rfl _ _ _ rfl elemBools2 rfl L.length rfl rfl (by omega) ?_; intro w0 hown0 hg0)
  have hf0 : Fr [] w w0 := (Fr.refl _ _).grown hg0 (by simp)
  have hB0 : w.heap.size < w0.heap.size := (hown0.lt _ rfl).2
  refine (fresh_any B d set _ (hb.fr0 hf0) (by omega)).mono ?_
  rintro e w1 ⟨A1, c1, rfl, hf1, hown1⟩
  simp only [List.length_map] at hown1
  have hI : ClRel w L set w.heap.size w0.heap.size (set.length + wt L (List.replicate L.length false)) (.slice A1 set.length c1) w1 :=
    ⟨List.replicate L.length false, set, A1, set.length, c1, rfl, rfl, hown1, (makeBools (P := Tryd.prog) (t := 0) hown0 (by
      rcases hown0.2 with ⟨he, _⟩ | ⟨g', cap, cur, he, _, hh, hnc, _, hsz, htk⟩
      · simp at he
      · injection he with e1 e2 e3
        injection e1 with e1
        injection e1 with e1
        subst e1 e3
        exact .inr ⟨cur, hh, by simpa using hsz⟩)).fr hf1 (by simp), by simp, hs, ClInv.start _ _ _, rfl, hbig, hf0.trans hf1⟩
  clear hown0 hown1 hf1
  generalize hN : set.length + wt L (List.replicate L.length false) = N at hI
  generalize hB1 : w0.heap.size = B1 at hI hB0
  clear hN hB1 hg0 hf0 hbig
  go_wp2_with fail
  go_loopg [6] N (ClRel w L set w.heap.size B1)
  case atStart => exact hI
  case round =>
    clear hI
    obtain ⟨bs, T, A2, n, c2, rfl, hnT, hown, hblk, hbl, hin, hinv, ht, htl, hf⟩ := hrel
    rcases Nat.eq_zero_or_pos n with rfl | hpos
    · have hT : Hid (T = []) := List.eq_nil_of_length_eq_zero hnT.out.symm
      have hrb := Rd.of_blk hblk (by unfold maxLen; omega)
      rw [hbl] at hrb
      go_wp2_with fail
      have hpk := picked_any _ _ bs wr hrb (by omega)
      rw [hbl] at hpk
      refine hpk.mono ?_
      rintro e w5 ⟨A5, c5, rfl, hf5, hown5⟩
      go_wp2
      go_ret
      exact ⟨bs, hbl, ClInv.done (by have := hinv.out; rwa [hT.out] at this), A5, c5, rfl, hf.trans hf5, own_base hown5 hf.size⟩
    · obtain ⟨m, rfl⟩ : ∃ m, n = m + 1 := ⟨n - 1, by omega⟩
      obtain ⟨T', x, hT⟩ : ∃ T' x, T = T' ++ [x] := by
        rcases T.eq_nil_or_concat with rfl | ⟨T', x, rfl⟩
        · have := hnT.out; simp at this
        · exact ⟨T', x, by simp⟩
      subst hT
      have hm : Hid (T'.length = m) := by have := hnT.out; show _ = _; simp at this; omega
      obtain ⟨j, rfl⟩ : ∃ j : Nat, x = j := ⟨x.toNat, by have := hin.out x (by simp); omega⟩
      have hj : j < L.length := by have := hin.out j (by simp); omega
      obtain ⟨g, rfl, hgB, hgl⟩ := own_some hown (by omega)
      have hct : wr.cell? ⟨g, m, none⟩ = some (.int .i64 j) := by
        have := hown.cellAt m (by omega)
        rw [this]
        simp [hm.out]
      have hown' := ownsRow_pop (size := 1) (n := m) (xs := T'.map (.int .i64)) (last := [.int .i64 j]) (by simp [hm.out]) (by simpa using hown)
      obtain ⟨b, hbj⟩ : ∃ b, bs[j]? = some b := ⟨bs[j], List.getElem?_eq_getElem (by omega)⟩
      have k4 := hblk.cell j (u := .bool b) (by simp [hbj])
      have k5 := hblk.frozen j
      have HB := Lib.hid hbj
      have hmc : m < c2 := by
        rcases hown.2 with ⟨he, _⟩ | ⟨g', cap, cur, he, _, hh, hnc, _⟩
        · simp at he
        · injection he with e1 e2 e3
          omega
      have hmt : m + 1 ≤ 1000000 := by have := ht.out; omega
      have hcm : c2 ≤ 9223372036854775807 := by
        have := (Rd.of_own hown).2.cap
        unfold maxLen at this; omega
      clear hbj hown hnT
      have hin' : Hid (InR L.length T') := fun y hy => hin.out y (by simp [hy])
      cases b
      · obtain ⟨b1, o1, l, A3, c3, rfl, hx, hc1, hr1⟩ := (ha.fr0 (hf.setCell (p := ⟨w.heap.size, j, none⟩) (.inr (Nat.le_refl _)) (.bool true))).at_ hj
        have hw := wt_set HB.out hx.out
        have hll : l.length + m + 1 ≤ 1000000 := by have := ht.out; omega
        have hlr : InR L.length l := hL l (List.mem_of_getElem? hx.out)
        have hno : needsOf L j = l := by unfold needsOf; simp [hx.out]
        have hinv' : Hid (ClInv L set (bs.set j true) (T' ++ l)) := ClInv.new_ (x := (j : Int)) hinv.out (by omega) (by omega) hno
        have HW : Hid (wt L (bs.set j true) + (l.length + 1) = wt L bs) := hw
        have HIN : Hid (InR L.length (T' ++ l)) := fun y hy => by
          rcases List.mem_append.1 hy with h | h
          · exact hin'.out y h
          · exact hlr y h
        clear hw hlr hno
        have hown3 := own_fr hown' ((Fr.refl [w.heap.size] wr).setCell (p := ⟨w.heap.size, j, none⟩) (.inl (by simp)) (.bool true)) (by simp [Value.ownBlock]; omega)
        go_wp2_with (at_builtin; refine wpList_append_rd rfl (.tmp 34) (.tmp 38) _ rfl elemInts (.slice (some ⟨g, 0, none⟩) m c2) _ rfl hown3 _ _ l (.int .i64) rfl hr1 one_i64 (by omega) (by simp; omega) ?_; intro A4 c4 w4 hown4 hg4 hat4)
        go_roundg (m + l.length + wt L (bs.set j true))
        case measure => have := ht.out; have := HW.out; omega
        case rel => exact ⟨bs.set j true, T' ++ l, A4, m + l.length, c4, rfl, by show _ = _; simp [hm.out], by simpa using hown4, (by simpa [List.map_set] using (hblk.set_ j (.bool true)).grown hg4 (by simp [Value.ownBlock]; omega)), by simpa using hbl, HIN, hinv', rfl, by have := ht.out; have := HW.out; omega, (hf.setCell (p := ⟨w.heap.size, j, none⟩) (.inr (Nat.le_refl _)) (.bool true)).grown hg4 (by simp [Value.ownBlock]; omega)⟩
      · have hinv' : Hid (ClInv L set bs T') := ClInv.old (x := (j : Int)) hinv.out (by unfold inB; simp [HB.out])
        go_wp2
        go_roundg (m + wt L bs)
        case measure => have := ht.out; omega
        case rel => exact ⟨bs, T', _, m, c2, rfl, hm.out.symm, hown', hblk, hbl, hin', hinv', rfl, by have := ht.out; omega, hf⟩
end Go.Proofs.YtjpbmbonccenfaaDoor
