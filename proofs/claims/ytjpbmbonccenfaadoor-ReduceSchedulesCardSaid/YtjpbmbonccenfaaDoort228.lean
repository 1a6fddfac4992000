/- Texts of this seat, one behind the other: Choose2, Plus, Hist3. -/
import Derived.Test.YtjpbmbonccenfaaDoort220
import Derived.Deep.RegionHeld3
/- Choose, Ancestors: of the program and the reference. -/
namespace Go.Proofs.YtjpbmbonccenfaaDoor
open Go.RowKit
set_option linter.unusedVariables false

/-- Choose. -/
def chooseR (P : List (List Int)) (cand skip : List Int) : Int × Int :=
  if checkHist P ≠ 0 then (0, checkHist P) else if isSet P.length cand = false ∨ isSet P.length skip = false then (0, 1) else if chooseOf P cand skip < 0 then (0, 7) else (chooseOf P cand skip, 0)
/-- The call returns two numbers. -/
def RetPair (w : World) (r : Int × Int) (e : Ending) (w' : World) : Prop := e = .returned (.tuple #[.int .i64 r.1, .int .i64 r.2]) ∧ Fr [] w w'
theorem RetPair.of {w w' : World} {r : Int × Int} {a b : Int} (h : r = (a, b)) (hf : Fr [] w w') : RetPair w r (.returned (.tuple #[.int .i64 a, .int .i64 b])) w' := by subst h; exact ⟨rfl, hf⟩

theorem chFold_start {P : List (List Int)} {cand : List Int} {x : Int} (xs : List Int) (a b : Int) : (x :: xs).foldl (chStep P cand) (-1, a) = (x :: xs).foldl (chStep P cand) (-1, b) := by
  have := chW_nonneg P cand x
  simp only [List.foldl_cons]
  have e : ∀ a : Int, chStep P cand (-1, a) x = (chW P cand x, x) := fun a => by
    unfold chStep
    exact if_pos (by simp only; omega)
  rw [e a, e b]
theorem chFold_mem {P : List (List Int)} {cand : List Int} : ∀ (xs : List Int) (b : Int × Int), (xs.foldl (chStep P cand) b).2 = b.2 ∨ (xs.foldl (chStep P cand) b).2 ∈ xs
  | [], b => .inl rfl
  | x :: xs, b => by
    rw [List.foldl_cons]
    rcases chFold_mem xs (chStep P cand b x) with h | h
    · rw [h]; unfold chStep; split
      · exact .inr (by simp)
      · exact .inl rfl
    · exact .inr (by simp [h])
/-- What is chosen is a candidate that is not to be skipped, unless there is none. -/
theorem choose_mem {P : List (List Int)} {cand skip : List Int} (h : minus cand skip ≠ []) (hin : InR P.length cand) : chooseOf P cand skip ∈ minus cand skip := by
  unfold chooseOf
  obtain ⟨x, xs, hx⟩ := List.exists_cons_of_ne_nil h
  rw [hx, chFold_start xs (-1) x]
  rcases chFold_mem (P := P) (cand := cand) (x :: xs) (-1, x) with h1 | h1
  · rw [h1]; simp
  · exact h1
theorem choose_neg {P : List (List Int)} {cand skip : List Int} (hin : InR P.length cand) : chooseOf P cand skip < 0 ↔ minus cand skip = [] := by
  constructor
  · intro h
    by_cases hm : minus cand skip = []
    · exact hm
    · have h1 := choose_mem hm hin
      have h2 := hin _ (mem_minus.1 h1).1
      omega
  · intro h
    unfold chooseOf; rw [h]; simp

theorem Rd.get_ {α : Type} {w : World} {enc : α → Value} {b off c k : Nat} {x : α} {xs : List α} (h : Rd w enc (some ⟨b, off, none⟩) c xs) (hx : xs[k]? = some x) : w.cell? ⟨b, off + k, none⟩ = some (enc x) := by
  obtain ⟨b', off', hA, hc⟩ := h.at0 (by have := (List.getElem?_eq_some_iff.1 hx).1; omega)
  injection hA with hA
  injection hA with e1 e2
  subst e1 e2
  exact hc k x hx
theorem Rd.one_cell {α : Type} {w : World} {enc : α → Value} {g : Nat} {x : α} (h : w.cell? ⟨g, 0, none⟩ = some (enc x)) : Rd w enc (some ⟨g, 0, none⟩) 1 [x] :=
  ⟨Nat.le_refl _, by unfold maxLen; omega, fun _ => ⟨g, 0, rfl, fun k y hy => by
    match k, hy with
    | 0, hy => simp at hy; subst hy; exact h⟩⟩

end Go.Proofs.YtjpbmbonccenfaaDoor

/- Plus: the union of two sets; the reference's. -/
namespace Go.Proofs.YtjpbmbonccenfaaDoor
open Go.RowKit
set_option linter.unusedVariables false

/-- The union. -/
def plus : List Int → List Int → List Int
  | [], ys => ys
  | x :: xs, [] => x :: xs
  | x :: xs, y :: ys => if x < y then x :: plus xs (y :: ys) else if x = y then x :: plus xs ys else y :: plus (x :: xs) ys
termination_by xs ys => xs.length + ys.length
theorem plus_nil (xs : List Int) : plus xs [] = xs := by cases xs <;> simp [plus]
theorem plus_len : ∀ (xs ys : List Int), (plus xs ys).length ≤ xs.length + ys.length
  | [], ys => by simp [plus]
  | x :: xs, [] => by simp [plus]
  | x :: xs, y :: ys => by
    rw [plus]
    split
    · have := plus_len xs (y :: ys); simp at this ⊢; omega
    · split
      · have := plus_len xs ys; simp; omega
      · have := plus_len (x :: xs) ys; simp at this ⊢; omega
termination_by xs ys => xs.length + ys.length
theorem mem_plus : ∀ {xs ys : List Int} {z : Int}, z ∈ plus xs ys ↔ z ∈ xs ∨ z ∈ ys
  | [], ys, z => by simp [plus]
  | x :: xs, [], z => by simp [plus]
  | x :: xs, y :: ys, z => by
    rw [plus]
    split
    · rw [List.mem_cons, mem_plus]; simp [or_assoc]
    · split
      · rename_i h; subst h
        rw [List.mem_cons, mem_plus]
        simp only [List.mem_cons]
        constructor
        · rintro (h | h | h)
          · exact .inl (.inl h)
          · exact .inl (.inr h)
          · exact .inr (.inr h)
        · rintro ((h | h) | (h | h))
          · exact .inl h
          · exact .inr (.inl h)
          · exact .inl h
          · exact .inr (.inr h)
      · rw [List.mem_cons, mem_plus]
        simp only [List.mem_cons]
        constructor
        · rintro (h | (h | h) | h)
          · exact .inr (.inl h)
          · exact .inl (.inl h)
          · exact .inl (.inr h)
          · exact .inr (.inr h)
        · rintro ((h | h) | (h | h))
          · exact .inr (.inl (.inl h))
          · exact .inr (.inl (.inr h))
          · exact .inl h
          · exact .inr (.inr h)
termination_by xs ys => xs.length + ys.length
theorem plus_sorted : ∀ {xs ys : List Int}, xs.Pairwise (· < ·) → ys.Pairwise (· < ·) → (plus xs ys).Pairwise (· < ·)
  | [], ys, _, h => by simpa [plus] using h
  | x :: xs, [], h, _ => by simpa [plus] using h
  | x :: xs, y :: ys, hx, hy => by
    rw [plus]
    have hx' := List.pairwise_cons.1 hx
    have hy' := List.pairwise_cons.1 hy
    split
    · rename_i h
      refine List.pairwise_cons.2 ⟨fun z hz => ?_, plus_sorted hx'.2 hy⟩
      rcases mem_plus.1 hz with h1 | h1
      · exact hx'.1 z h1
      · rcases List.mem_cons.1 h1 with h2 | h2
        · omega
        · have := hy'.1 z h2; omega
    · split
      · rename_i h; subst h
        refine List.pairwise_cons.2 ⟨fun z hz => ?_, plus_sorted hx'.2 hy'.2⟩
        rcases mem_plus.1 hz with h1 | h1
        · exact hx'.1 z h1
        · exact hy'.1 z h1
      · refine List.pairwise_cons.2 ⟨fun z hz => ?_, plus_sorted hx hy'.2⟩
        rcases mem_plus.1 hz with h1 | h1
        · rcases List.mem_cons.1 h1 with h2 | h2
          · omega
          · have := hx'.1 z h2; omega
        · exact hy'.1 z h1
termination_by xs ys => xs.length + ys.length
theorem plus_set {n : Int} {xs ys : List Int} (hx : isSet n xs = true) (hy : isSet n ys = true) : isSet n (plus xs ys) = true := by
  rw [isSet_iff] at *
  exact ⟨fun z hz => (mem_plus.1 hz).elim (hx.1 z) (hy.1 z), plus_sorted hx.2 hy.2⟩
theorem drop_at {xs : List Int} {k : Nat} {x : Int} (h : Hid (xs[k]? = some x)) : xs.drop k = x :: xs.drop (k + 1) := by
  have hk : k < xs.length := (List.getElem?_eq_some_iff.1 h.out).1
  have he : xs[k] = x := (List.getElem?_eq_some_iff.1 h.out).2
  rw [List.drop_eq_getElem_cons hk, he]
/-- What is gathered, and what is still to come. -/
structure PlSt (xs ys zs : List Int) (i k : Nat) : Prop where
  eq : plus xs ys = zs ++ plus (xs.drop i) (ys.drop k)
  len : zs.length ≤ i + k
theorem PlSt.left {xs ys zs : List Int} {i k : Nat} {x : Int} (h : PlSt xs ys zs i k) (hx : Hid (xs[i]? = some x)) (hy : ys.length ≤ k ∨ ∃ y, ys[k]? = some y ∧ x < y) : PlSt xs ys (zs ++ [x]) (i + 1) k := by
  refine ⟨?_, by have := h.len; simp; omega⟩
  rw [h.eq, drop_at hx]
  rcases hy with hy | ⟨y, hy, hlt⟩
  · rw [List.drop_of_length_le hy, plus_nil, plus_nil]; simp
  · rw [drop_at (x := y) hy, plus, if_pos hlt]; simp
theorem PlSt.both {xs ys zs : List Int} {i k : Nat} {x : Int} (h : PlSt xs ys zs i k) (hx : Hid (xs[i]? = some x)) (hy : Hid (ys[k]? = some x)) : PlSt xs ys (zs ++ [x]) (i + 1) (k + 1) := by
  refine ⟨?_, by have := h.len; simp; omega⟩
  rw [h.eq, drop_at hx, drop_at hy, plus, if_neg (by omega), if_pos rfl]; simp
theorem PlSt.right {xs ys zs : List Int} {i k : Nat} {y : Int} (h : PlSt xs ys zs i k) (hy : Hid (ys[k]? = some y)) (hx : xs.length ≤ i ∨ ∃ x, xs[i]? = some x ∧ y < x) : PlSt xs ys (zs ++ [y]) i (k + 1) := by
  refine ⟨?_, by have := h.len; simp; omega⟩
  rw [h.eq, drop_at hy]
  rcases hx with hx | ⟨x, hx, hlt⟩
  · rw [List.drop_of_length_le hx, plus, plus]; simp
  · rw [drop_at (x := x) hx, plus, if_neg (by omega), if_neg (by omega)]; simp
theorem PlSt.done {xs ys zs : List Int} {i k : Nat} (h : PlSt xs ys zs i k) (hx : xs.length ≤ i) (hy : ys.length ≤ k) : zs = plus xs ys := by
  rw [h.eq, List.drop_of_length_le hx, List.drop_of_length_le hy, plus]; simp

set_option maxRecDepth 100000 in
set_option maxHeartbeats 3200000 in
theorem Plus_any (A B : Option Addr) (ca cb : Nat) (xs ys : List Int) (w : World) (ha : Rd w (.int .i64) A ca xs) (hb : Rd w (.int .i64) B cb ys) (hlx : xs.length ≤ 500000) (hly : ys.length ≤ 500000) :
    Calls Tryd.prog 59 #[.slice A xs.length ca, .slice B ys.length cb] w (RetN w 3 (plus xs ys)) := by
  go_enter Tryd.func59, Tryd.ntmps59
  go_wp2
  go_loopw [5, 6, 7] (fun vv iv kv wr => ∃ (i k : Nat) (zs : List Int), i ≤ xs.length ∧ k ≤ ys.length ∧ iv = .int .i64 i ∧ kv = .int .i64 k ∧ Hid (PlSt xs ys zs i k) ∧ GathN w 3 zs vv wr) (fun _ i k _ => xs.length - (intOf i).toNat + (ys.length - (intOf k).toNat))
  case atStart => exact ⟨0, 0, [], by omega, by omega, rfl, rfl, ⟨by simp, by simp⟩, GathN.start _ _ rfl⟩
  case round =>
    obtain ⟨i, k, zs, hi, hk, rfl, rfl, hst, A1, c1, rfl, hown, hf⟩ := hrel
    have hzl := hst.out.len
    by_cases hi' : i < xs.length
    · have di : decide (i < xs.length) = true := by simpa using hi'
      by_cases hk' : k < ys.length
      · have dk : decide (k < ys.length) = true := by simpa using hk'
        have ek : ((k : Int) == (ys.length : Int)) = false := by rw [beq_eq_false_iff_ne]; omega
        have ek' : (k == ys.length) = false := by rw [beq_eq_false_iff_ne]; omega
        obtain ⟨b1, o1, x, rfl, hx, hc1⟩ := (ha.fr0 hf).at_ hi'
        obtain ⟨b2, o2, y, rfl, hy, hc2⟩ := (hb.fr0 hf).at_ hk'
        by_cases hxy : x ≤ y
        · have d3 : decide (x ≤ y) = true := by simpa using hxy
          by_cases hxe : x = y
          · have e3 : (x == y) = true := by simpa using hxe
            have hst' : Hid (PlSt xs ys (zs ++ [x]) (i + 1) (k + 1)) := hst.out.both hx (by rw [hxe]; exact hy)
            clear hst hxe
            go_wp2_with fail
            go_quiet (fail)
            go_wp2_with fail
            go_quiet (fail)
            go_wp2_with (at_builtin; refine wpList_append_rd rfl (.tmp 56) (.tmp 61) _ rfl elemInts (.slice A1 zs.length c1) _ rfl (own_drewN (hown.alloc _) _) _ _ [x] (.int .i64) rfl (Rd.one_cell (by simp)) one_i64 (by simp; omega) (by simp; have := hf.size; omega) ?_; intro A2 c2 w2 hown2 hg2 hat2)
            go_roundw
            case rel => exact ⟨i + 1, k + 1, zs ++ [x], by omega, by omega, by go_num, by go_num, hst', GathN.snoc (by repeat (first | exact Fr.refl _ _ | assumption | apply Fr.drewN | apply Fr.drew | apply Fr.alloc | refine Fr.setCell ?_ (by simp) _)) (own_drewN (hown.alloc _) _) hg2 hown2 (by simp)⟩
            case measure => simp [intOf]; omega
          · have e3 : (x == y) = false := by simpa using hxe
            have hst' : Hid (PlSt xs ys (zs ++ [x]) (i + 1) k) := hst.out.left hx (.inr ⟨y, hy.out, by omega⟩)
            clear hst hxe
            go_wp2_with fail
            go_quiet (fail)
            go_wp2_with fail
            go_quiet (fail)
            go_wp2_with (at_builtin; refine wpList_append_rd rfl (.tmp 56) (.tmp 61) _ rfl elemInts (.slice A1 zs.length c1) _ rfl (own_drewN (hown.alloc _) _) _ _ [x] (.int .i64) rfl (Rd.one_cell (by simp)) one_i64 (by simp; omega) (by simp; have := hf.size; omega) ?_; intro A2 c2 w2 hown2 hg2 hat2)
            go_roundw
            case rel => exact ⟨i + 1, k, zs ++ [x], by omega, by omega, by go_num, rfl, hst', GathN.snoc (by repeat (first | exact Fr.refl _ _ | assumption | apply Fr.drewN | apply Fr.drew | apply Fr.alloc | refine Fr.setCell ?_ (by simp) _)) (own_drewN (hown.alloc _) _) hg2 hown2 (by simp)⟩
            case measure => simp [intOf]; omega
        · have d3 : decide (x ≤ y) = false := by simpa using hxy
          have hst' : Hid (PlSt xs ys (zs ++ [y]) i (k + 1)) := hst.out.right hy (.inr ⟨x, hx.out, by omega⟩)
          clear hst
          go_wp2_with fail
          go_quiet (fail)
          go_wp2_with (at_builtin; refine wpList_append_rd rfl (.tmp 65) (.tmp 70) _ rfl elemInts (.slice A1 zs.length c1) _ rfl (own_drewN (hown.alloc _) _) _ _ [y] (.int .i64) rfl (Rd.one_cell (by simp)) one_i64 (by simp; omega) (by simp; have := hf.size; omega) ?_; intro A2 c2 w2 hown2 hg2 hat2)
          go_roundw
          case rel => exact ⟨i, k + 1, zs ++ [y], by omega, by omega, rfl, by go_num, hst', GathN.snoc (by repeat (first | exact Fr.refl _ _ | assumption | apply Fr.drewN | apply Fr.drew | apply Fr.alloc | refine Fr.setCell ?_ (by simp) _)) (own_drewN (hown.alloc _) _) hg2 hown2 (by simp)⟩
          case measure => simp [intOf]; omega
      · have dk : decide (k < ys.length) = false := by simpa using hk'
        have hke : k = ys.length := by omega
        have ek : ((k : Int) == (ys.length : Int)) = true := by rw [hke]; simp
        have ek' : (k == ys.length) = true := by rw [hke]; simp
        obtain ⟨b1, o1, x, rfl, hx, hc1⟩ := (ha.fr0 hf).at_ hi'
        have hst' : Hid (PlSt xs ys (zs ++ [x]) (i + 1) k) := hst.out.left hx (.inl (by omega))
        clear hst hke
        go_wp2_with fail
        go_quiet (fail)
        go_wp2_with fail
        go_quiet (fail)
        go_wp2_with (at_builtin; refine wpList_append_rd rfl (.tmp 56) (.tmp 61) _ rfl elemInts (.slice A1 zs.length c1) _ rfl (own_drewN (hown.alloc _) _) _ _ [x] (.int .i64) rfl (Rd.one_cell (by simp)) one_i64 (by simp; omega) (by simp; have := hf.size; omega) ?_; intro A2 c2 w2 hown2 hg2 hat2)
        go_roundw
        case rel => exact ⟨i + 1, k, zs ++ [x], by omega, by omega, by go_num, rfl, hst', GathN.snoc (by repeat (first | exact Fr.refl _ _ | assumption | apply Fr.drewN | apply Fr.drew | apply Fr.alloc | refine Fr.setCell ?_ (by simp) _)) (own_drewN (hown.alloc _) _) hg2 hown2 (by simp)⟩
        case measure => simp [intOf]; omega
    · have di : decide (i < xs.length) = false := by simpa using hi'
      by_cases hk' : k < ys.length
      · have dk : decide (k < ys.length) = true := by simpa using hk'
        have ek : ((k : Int) == (ys.length : Int)) = false := by rw [beq_eq_false_iff_ne]; omega
        have ek' : (k == ys.length) = false := by rw [beq_eq_false_iff_ne]; omega
        obtain ⟨b2, o2, y, rfl, hy, hc2⟩ := (hb.fr0 hf).at_ hk'
        have hst' : Hid (PlSt xs ys (zs ++ [y]) i (k + 1)) := hst.out.right hy (.inl (by omega))
        clear hst
        go_wp2_with fail
        go_quiet (fail)
        go_wp2_with (at_builtin; refine wpList_append_rd rfl (.tmp 65) (.tmp 70) _ rfl elemInts (.slice A1 zs.length c1) _ rfl (own_drewN (hown.alloc _) _) _ _ [y] (.int .i64) rfl (Rd.one_cell (by simp)) one_i64 (by simp; omega) (by simp; have := hf.size; omega) ?_; intro A2 c2 w2 hown2 hg2 hat2)
        go_roundw
        case rel => exact ⟨i, k + 1, zs ++ [y], by omega, by omega, rfl, by go_num, hst', GathN.snoc (by repeat (first | exact Fr.refl _ _ | assumption | apply Fr.drewN | apply Fr.drew | apply Fr.alloc | refine Fr.setCell ?_ (by simp) _)) (own_drewN (hown.alloc _) _) hg2 hown2 (by simp)⟩
        case measure => simp [intOf]; omega
      · have dk : decide (k < ys.length) = false := by simpa using hk'
        have hfin := Lib.hid (hst.out.done (by omega) (by omega))
        clear hst
        go_wp2
        go_ret
        exact GathN.ret hf hown (by rw [hfin.out])
end Go.Proofs.YtjpbmbonccenfaaDoor

/- wide; Ancestors of the program and the reference. -/
namespace Go.Proofs.YtjpbmbonccenfaaDoor
open Go.RowKit
set_option linter.unusedVariables false

/-- The call tells whether a history is too great. -/
def RetWide (w : World) (L : List (List Int)) (e : Ending) (w' : World) : Prop :=
  ∃ b : Bool, e = .returned (.bool b) ∧ Fr [] w w' ∧ (b = false → L.length ≤ 30 ∨ 256 < L.length)
set_option maxRecDepth 100000 in
set_option maxHeartbeats 1600000 in
theorem wide_any (A : Option Addr) (c : Nat) (L : List (List Int)) (w : World) (ha : Rss w A c L) :
    Calls Tryd.prog 50 #[.agg #[.slice A L.length c]] w (RetWide w L) := by
  have hbd := ha.bound
  go_enter Tryd.func50, Tryd.ntmps50
  go_wp2
  have hf0 : Fr [] w (w.alloc (.cells #[.slice A L.length c] 71)) := (by repeat (first | exact Fr.refl _ _ | assumption | apply Fr.drewN | apply Fr.drew | apply Fr.alloc | refine Fr.setCell ?_ (by simp) _))
  have hb0 := Blk.new w 71 #[.slice A L.length c] _ rfl
  generalize w.alloc (.cells #[.slice A L.length c] 71) = w1 at hf0 hb0 ⊢
  have q0 := hb0.cell 0 rfl
  go_loop [3, 4] (fun nv i => ∃ (k : Nat) (n : Int), k ≤ L.length ∧ k ≤ 40 ∧ i = .int .i64 k ∧ nv = .int .i64 n ∧ 0 ≤ n ∧ n ≤ 300 * k) (fun _ i => L.length - (intOf i).toNat)
  case atStart => exact ⟨0, 0, by omega, by omega, rfl, rfl, by omega, by omega⟩
  case round =>
    obtain ⟨k, n, hk, hk40, rfl, rfl, hn0, hn1⟩ := hrel
    by_cases hlt : k < L.length
    · by_cases h40 : k < 40
      · have d1 : decide (k < L.length) = true := by simpa using hlt
        have d2 : decide ((k : Int) < 40) = true := by simp; omega
        have d2' : decide (k < 40) = true := by simpa using h40
        obtain ⟨b1, o1, l, A1, c1, rfl, hl, hc1, hr1⟩ := (ha.fr0 hf0).at_ hlt
        have hlb := hr1.bound
        obtain ⟨q, hq⟩ : ∃ q, (if (300 : Int) < l.length then (300 : Int) else l.length) = q := ⟨_, rfl⟩
        have hq2 : 0 ≤ q ∧ q ≤ 300 := by rw [← hq]; split <;> omega
        go_wp2_with fail
        go_round
        case rel => exact ⟨k + 1, n + q, by omega, by omega, by go_num, rfl, by omega, by omega⟩
        case measure => simp [intOf]; omega
      · have d1 : decide (k < L.length) = true := by simpa using hlt
        have d2 : decide ((k : Int) < 40) = false := by simp; omega
        have d2' : decide (k < 40) = false := by simpa using h40
        by_cases h30 : L.length ≤ 30
        · exfalso; omega
        · by_cases h256 : L.length ≤ 256
          · have e1 : decide (30 < (L.length : Int)) = true := by simp; omega
            have e2 : decide ((L.length : Int) ≤ 256) = true := by simp; omega
            go_wp2_with fail
            go_ret
            exact ⟨_, rfl, hf0, fun h => by simp at h⟩
          · have e1 : decide (30 < (L.length : Int)) = true := by simp; omega
            have e2 : decide ((L.length : Int) ≤ 256) = false := by simp; omega
            have hfi : Hid (256 < L.length) := by show _ < _; omega
            by_cases h300 : L.length ≤ 300
            · have e3 : decide (300 < (L.length : Int)) = false := by simp; omega
              clear h300 h256 h30 hlt
              go_wp2_with fail
              exact bodyPost_ret (v := .bool (decide (300 < n))) (by simp [results, Tryd.results50, go_sem]) rfl ⟨_, rfl, hf0, fun _ => .inr hfi.out⟩
            · have e3 : decide (300 < (L.length : Int)) = true := by simp; omega
              clear h300 h256 h30 hlt
              go_wp2_with fail
              go_ret
              exact ⟨_, rfl, hf0, fun _ => .inr hfi.out⟩
    · have d1 : decide (k < L.length) = false := by simpa using hlt
      by_cases h30 : L.length ≤ 30
      · have e1 : decide (30 < (L.length : Int)) = false := by simp; omega
        have e3 : decide (300 < (L.length : Int)) = false := by simp; omega
        go_wp2_with fail
        exact bodyPost_ret (v := .bool (decide (300 < n))) (by simp [results, Tryd.results50, go_sem]) rfl ⟨_, rfl, hf0, fun _ => .inl h30⟩
      · by_cases h256 : L.length ≤ 256
        · have e1 : decide (30 < (L.length : Int)) = true := by simp; omega
          have e2 : decide ((L.length : Int) ≤ 256) = true := by simp; omega
          go_wp2_with fail
          go_ret
          exact ⟨_, rfl, hf0, fun h => by simp at h⟩
        · have e1 : decide (30 < (L.length : Int)) = true := by simp; omega
          have e2 : decide ((L.length : Int) ≤ 256) = false := by simp; omega
          have hfi : Hid (256 < L.length) := by show _ < _; omega
          by_cases h300 : L.length ≤ 300
          · have e3 : decide (300 < (L.length : Int)) = false := by simp; omega
            clear h300 h256 h30 hlt
            go_wp2_with fail
            exact bodyPost_ret (v := .bool (decide (300 < n))) (by simp [results, Tryd.results50, go_sem]) rfl ⟨_, rfl, hf0, fun _ => .inr hfi.out⟩
          · have e3 : decide (300 < (L.length : Int)) = true := by simp; omega
            clear h300 h256 h30 hlt
            go_wp2_with fail
            go_ret
            exact ⟨_, rfl, hf0, fun _ => .inr hfi.out⟩

/-- Ancestors. -/
def ancestorsOf (P : List (List Int)) (v : Int) : List Int × Int :=
  if checkHist P ≠ 0 then ([], checkHist P) else if v < 0 ∨ P.length ≤ v then ([], 1) else (ancOf P [v], 0)

end Go.Proofs.YtjpbmbonccenfaaDoor
