/- Plus: the union of two sets; the reference's. -/
import Derived.Test.YtjpbmbonccenfaaChoose2
namespace Go.Proofs.Ytjpbmbonccenfaa
open Go.RowKit
set_option linter.unusedVariables false

/-- The union. -/
def plus : List Int → List Int → List Int
  | [], ys => ys
  | x :: xs, [] => x :: xs
  | x :: xs, y :: ys => if x < y then x :: plus xs (y :: ys) else if x = y then x :: plus xs ys else y :: plus (x :: xs) ys
termination_by xs ys => xs.length + ys.length
theorem plus_nil (xs : List Int) : plus xs [] = xs := by cases xs <;> simp [plus]
theorem plus_len : ∀ (xs ys : List Int), (plus xs ys).length ≤ xs.length + ys.length
  | [], ys => by simp [plus]
  | x :: xs, [] => by simp [plus]
  | x :: xs, y :: ys => by
    rw [plus]
    split
    · have := plus_len xs (y :: ys); simp at this ⊢; omega
    · split
      · have := plus_len xs ys; simp; omega
      · have := plus_len (x :: xs) ys; simp at this ⊢; omega
termination_by xs ys => xs.length + ys.length
theorem mem_plus : ∀ {xs ys : List Int} {z : Int}, z ∈ plus xs ys ↔ z ∈ xs ∨ z ∈ ys
  | [], ys, z => by simp [plus]
  | x :: xs, [], z => by simp [plus]
  | x :: xs, y :: ys, z => by
    rw [plus]
    split
    · rw [List.mem_cons, mem_plus]; simp [or_assoc]
    · split
      · rename_i h; subst h
        rw [List.mem_cons, mem_plus]
        simp only [List.mem_cons]
        constructor
        · rintro (h | h | h)
          · exact .inl (.inl h)
          · exact .inl (.inr h)
          · exact .inr (.inr h)
        · rintro ((h | h) | (h | h))
          · exact .inl h
          · exact .inr (.inl h)
          · exact .inl h
          · exact .inr (.inr h)
      · rw [List.mem_cons, mem_plus]
        simp only [List.mem_cons]
        constructor
        · rintro (h | (h | h) | h)
          · exact .inr (.inl h)
          · exact .inl (.inl h)
          · exact .inl (.inr h)
          · exact .inr (.inr h)
        · rintro ((h | h) | (h | h))
          · exact .inr (.inl (.inl h))
          · exact .inr (.inl (.inr h))
          · exact .inl h
          · exact .inr (.inr h)
termination_by xs ys => xs.length + ys.length
theorem plus_sorted : ∀ {xs ys : List Int}, xs.Pairwise (· < ·) → ys.Pairwise (· < ·) → (plus xs ys).Pairwise (· < ·)
  | [], ys, _, h => by simpa [plus] using h
  | x :: xs, [], h, _ => by simpa [plus] using h
  | x :: xs, y :: ys, hx, hy => by
    rw [plus]
    have hx' := List.pairwise_cons.1 hx
    have hy' := List.pairwise_cons.1 hy
    split
    · rename_i h
      refine List.pairwise_cons.2 ⟨fun z hz => ?_, plus_sorted hx'.2 hy⟩
      rcases mem_plus.1 hz with h1 | h1
      · exact hx'.1 z h1
      · rcases List.mem_cons.1 h1 with h2 | h2
        · omega
        · have := hy'.1 z h2; omega
    · split
      · rename_i h; subst h
        refine List.pairwise_cons.2 ⟨fun z hz => ?_, plus_sorted hx'.2 hy'.2⟩
        rcases mem_plus.1 hz with h1 | h1
        · exact hx'.1 z h1
        · exact hy'.1 z h1
      · refine List.pairwise_cons.2 ⟨fun z hz => ?_, plus_sorted hx hy'.2⟩
        rcases mem_plus.1 hz with h1 | h1
        · rcases List.mem_cons.1 h1 with h2 | h2
          · omega
          · have := hx'.1 z h2; omega
        · exact hy'.1 z h1
termination_by xs ys => xs.length + ys.length
theorem plus_set {n : Int} {xs ys : List Int} (hx : isSet n xs = true) (hy : isSet n ys = true) : isSet n (plus xs ys) = true := by
  rw [isSet_iff] at *
  exact ⟨fun z hz => (mem_plus.1 hz).elim (hx.1 z) (hy.1 z), plus_sorted hx.2 hy.2⟩
theorem drop_at {xs : List Int} {k : Nat} {x : Int} (h : Hid (xs[k]? = some x)) : xs.drop k = x :: xs.drop (k + 1) := by
  have hk : k < xs.length := (List.getElem?_eq_some_iff.1 h.out).1
  have he : xs[k] = x := (List.getElem?_eq_some_iff.1 h.out).2
  rw [List.drop_eq_getElem_cons hk, he]
/-- What is gathered, and what is still to come. -/
structure PlSt (xs ys zs : List Int) (i k : Nat) : Prop where
  eq : plus xs ys = zs ++ plus (xs.drop i) (ys.drop k)
  len : zs.length ≤ i + k
theorem PlSt.left {xs ys zs : List Int} {i k : Nat} {x : Int} (h : PlSt xs ys zs i k) (hx : Hid (xs[i]? = some x)) (hy : ys.length ≤ k ∨ ∃ y, ys[k]? = some y ∧ x < y) : PlSt xs ys (zs ++ [x]) (i + 1) k := by
  refine ⟨?_, by have := h.len; simp; omega⟩
  rw [h.eq, drop_at hx]
  rcases hy with hy | ⟨y, hy, hlt⟩
  · rw [List.drop_of_length_le hy, plus_nil, plus_nil]; simp
  · rw [drop_at (x := y) hy, plus, if_pos hlt]; simp
theorem PlSt.both {xs ys zs : List Int} {i k : Nat} {x : Int} (h : PlSt xs ys zs i k) (hx : Hid (xs[i]? = some x)) (hy : Hid (ys[k]? = some x)) : PlSt xs ys (zs ++ [x]) (i + 1) (k + 1) := by
  refine ⟨?_, by have := h.len; simp; omega⟩
  rw [h.eq, drop_at hx, drop_at hy, plus, if_neg (by omega), if_pos rfl]; simp
theorem PlSt.right {xs ys zs : List Int} {i k : Nat} {y : Int} (h : PlSt xs ys zs i k) (hy : Hid (ys[k]? = some y)) (hx : xs.length ≤ i ∨ ∃ x, xs[i]? = some x ∧ y < x) : PlSt xs ys (zs ++ [y]) i (k + 1) := by
  refine ⟨?_, by have := h.len; simp; omega⟩
  rw [h.eq, drop_at hy]
  rcases hx with hx | ⟨x, hx, hlt⟩
  · rw [List.drop_of_length_le hx, plus, plus]; simp
  · rw [drop_at (x := x) hx, plus, if_neg (by omega), if_neg (by omega)]; simp
theorem PlSt.done {xs ys zs : List Int} {i k : Nat} (h : PlSt xs ys zs i k) (hx : xs.length ≤ i) (hy : ys.length ≤ k) : zs = plus xs ys := by
  rw [h.eq, List.drop_of_length_le hx, List.drop_of_length_le hy, plus]; simp

set_option maxRecDepth 100000 in
set_option maxHeartbeats 3200000 in
theorem Plus_any (A B : Option Addr) (ca cb : Nat) (xs ys : List Int) (w : World) (ha : Rd w (.int .i64) A ca xs) (hb : Rd w (.int .i64) B cb ys) (hlx : xs.length ≤ 500000) (hly : ys.length ≤ 500000) :
    Calls Try.prog 65 #[.slice A xs.length ca, .slice B ys.length cb] w (RetN w 3 (plus xs ys)) := by
  go_enter Try.func65, Try.ntmps65
  go_wp2
  go_loopw [5, 6, 7] (fun vv iv kv wr => ∃ (i k : Nat) (zs : List Int), i ≤ xs.length ∧ k ≤ ys.length ∧ iv = .int .i64 i ∧ kv = .int .i64 k ∧ Hid (PlSt xs ys zs i k) ∧ GathN w 3 zs vv wr) (fun _ i k _ => xs.length - (intOf i).toNat + (ys.length - (intOf k).toNat))
  case atStart => exact ⟨0, 0, [], by omega, by omega, rfl, rfl, ⟨by simp, by simp⟩, GathN.start _ _ rfl⟩
  case round =>
    obtain ⟨i, k, zs, hi, hk, rfl, rfl, hst, A1, c1, rfl, hown, hf⟩ := hrel
    have hzl := hst.out.len
    by_cases hi' : i < xs.length
    · have di : decide (i < xs.length) = true := by simpa using hi'
      by_cases hk' : k < ys.length
      · have dk : decide (k < ys.length) = true := by simpa using hk'
        have ek : ((k : Int) == (ys.length : Int)) = false := by rw [beq_eq_false_iff_ne]; omega
        have ek' : (k == ys.length) = false := by rw [beq_eq_false_iff_ne]; omega
        obtain ⟨b1, o1, x, rfl, hx, hc1⟩ := (ha.fr0 hf).at_ hi'
        obtain ⟨b2, o2, y, rfl, hy, hc2⟩ := (hb.fr0 hf).at_ hk'
        by_cases hxy : x ≤ y
        · have d3 : decide (x ≤ y) = true := by simpa using hxy
          by_cases hxe : x = y
          · have e3 : (x == y) = true := by simpa using hxe
            have hst' : Hid (PlSt xs ys (zs ++ [x]) (i + 1) (k + 1)) := hst.out.both hx (by rw [hxe]; exact hy)
            clear hst hxe
            go_wp2_with fail
            go_quiet (fail)
            go_wp2_with fail
            go_quiet (fail)
            go_wp2_with (at_builtin; refine wpList_append_rd rfl (.tmp 56) (.tmp 61) _ rfl elemInts (.slice A1 zs.length c1) _ rfl (own_drewN (hown.alloc _) _) _ _ [x] (.int .i64) rfl (Rd.one_cell (by simp)) one_i64 (by simp; omega) (by simp; have := hf.size; omega) ?_; intro A2 c2 w2 hown2 hg2 hat2)
            go_roundw
            case rel => exact ⟨i + 1, k + 1, zs ++ [x], by omega, by omega, by go_num, by go_num, hst', GathN.snoc (by repeat (first | exact Fr.refl _ _ | assumption | apply Fr.drewN | apply Fr.drew | apply Fr.alloc | refine Fr.setCell ?_ (by simp) _)) (own_drewN (hown.alloc _) _) hg2 hown2 (by simp)⟩
            case measure => simp [intOf]; omega
          · have e3 : (x == y) = false := by simpa using hxe
            have hst' : Hid (PlSt xs ys (zs ++ [x]) (i + 1) k) := hst.out.left hx (.inr ⟨y, hy.out, by omega⟩)
            clear hst hxe
            go_wp2_with fail
            go_quiet (fail)
            go_wp2_with fail
            go_quiet (fail)
            go_wp2_with (at_builtin; refine wpList_append_rd rfl (.tmp 56) (.tmp 61) _ rfl elemInts (.slice A1 zs.length c1) _ rfl (own_drewN (hown.alloc _) _) _ _ [x] (.int .i64) rfl (Rd.one_cell (by simp)) one_i64 (by simp; omega) (by simp; have := hf.size; omega) ?_; intro A2 c2 w2 hown2 hg2 hat2)
            go_roundw
            case rel => exact ⟨i + 1, k, zs ++ [x], by omega, by omega, by go_num, rfl, hst', GathN.snoc (by repeat (first | exact Fr.refl _ _ | assumption | apply Fr.drewN | apply Fr.drew | apply Fr.alloc | refine Fr.setCell ?_ (by simp) _)) (own_drewN (hown.alloc _) _) hg2 hown2 (by simp)⟩
            case measure => simp [intOf]; omega
        · have d3 : decide (x ≤ y) = false := by simpa using hxy
          have hst' : Hid (PlSt xs ys (zs ++ [y]) i (k + 1)) := hst.out.right hy (.inr ⟨x, hx.out, by omega⟩)
          clear hst
          go_wp2_with fail
          go_quiet (fail)
          go_wp2_with (at_builtin; refine wpList_append_rd rfl (.tmp 65) (.tmp 70) _ rfl elemInts (.slice A1 zs.length c1) _ rfl (own_drewN (hown.alloc _) _) _ _ [y] (.int .i64) rfl (Rd.one_cell (by simp)) one_i64 (by simp; omega) (by simp; have := hf.size; omega) ?_; intro A2 c2 w2 hown2 hg2 hat2)
          go_roundw
          case rel => exact ⟨i, k + 1, zs ++ [y], by omega, by omega, rfl, by go_num, hst', GathN.snoc (by repeat (first | exact Fr.refl _ _ | assumption | apply Fr.drewN | apply Fr.drew | apply Fr.alloc | refine Fr.setCell ?_ (by simp) _)) (own_drewN (hown.alloc _) _) hg2 hown2 (by simp)⟩
          case measure => simp [intOf]; omega
      · have dk : decide (k < ys.length) = false := by simpa using hk'
        have hke : k = ys.length := by omega
        have ek : ((k : Int) == (ys.length : Int)) = true := by rw [hke]; simp
        have ek' : (k == ys.length) = true := by rw [hke]; simp
        obtain ⟨b1, o1, x, rfl, hx, hc1⟩ := (ha.fr0 hf).at_ hi'
        have hst' : Hid (PlSt xs ys (zs ++ [x]) (i + 1) k) := hst.out.left hx (.inl (by omega))
        clear hst hke
        go_wp2_with fail
        go_quiet (fail)
        go_wp2_with fail
        go_quiet (fail)
        go_wp2_with (at_builtin; refine wpList_append_rd rfl (.tmp 56) (.tmp 61) _ rfl elemInts (.slice A1 zs.length c1) _ rfl (own_drewN (hown.alloc _) _) _ _ [x] (.int .i64) rfl (Rd.one_cell (by simp)) one_i64 (by simp; omega) (by simp; have := hf.size; omega) ?_; intro A2 c2 w2 hown2 hg2 hat2)
        go_roundw
        case rel => exact ⟨i + 1, k, zs ++ [x], by omega, by omega, by go_num, rfl, hst', GathN.snoc (by repeat (first | exact Fr.refl _ _ | assumption | apply Fr.drewN | apply Fr.drew | apply Fr.alloc | refine Fr.setCell ?_ (by simp) _)) (own_drewN (hown.alloc _) _) hg2 hown2 (by simp)⟩
        case measure => simp [intOf]; omega
    · have di : decide (i < xs.length) = false := by simpa using hi'
      by_cases hk' : k < ys.length
      · have dk : decide (k < ys.length) = true := by simpa using hk'
        have ek : ((k : Int) == (ys.length : Int)) = false := by rw [beq_eq_false_iff_ne]; omega
        have ek' : (k == ys.length) = false := by rw [beq_eq_false_iff_ne]; omega
        obtain ⟨b2, o2, y, rfl, hy, hc2⟩ := (hb.fr0 hf).at_ hk'
        have hst' : Hid (PlSt xs ys (zs ++ [y]) i (k + 1)) := hst.out.right hy (.inl (by omega))
        clear hst
        go_wp2_with fail
        go_quiet (fail)
        go_wp2_with (at_builtin; refine wpList_append_rd rfl (.tmp 65) (.tmp 70) _ rfl elemInts (.slice A1 zs.length c1) _ rfl (own_drewN (hown.alloc _) _) _ _ [y] (.int .i64) rfl (Rd.one_cell (by simp)) one_i64 (by simp; omega) (by simp; have := hf.size; omega) ?_; intro A2 c2 w2 hown2 hg2 hat2)
        go_roundw
        case rel => exact ⟨i, k + 1, zs ++ [y], by omega, by omega, rfl, by go_num, hst', GathN.snoc (by repeat (first | exact Fr.refl _ _ | assumption | apply Fr.drewN | apply Fr.drew | apply Fr.alloc | refine Fr.setCell ?_ (by simp) _)) (own_drewN (hown.alloc _) _) hg2 hown2 (by simp)⟩
        case measure => simp [intOf]; omega
      · have dk : decide (k < ys.length) = false := by simpa using hk'
        have hfin := Lib.hid (hst.out.done (by omega) (by omega))
        clear hst
        go_wp2
        go_ret
        exact GathN.ret hf hown (by rw [hfin.out])
end Go.Proofs.Ytjpbmbonccenfaa
