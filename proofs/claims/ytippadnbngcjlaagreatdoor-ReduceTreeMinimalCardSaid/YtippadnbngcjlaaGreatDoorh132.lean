/- Texts of this seat, one behind the other: MinT, Lst, MinO, MinS, Min, GMinS, GMin, IList, IList2, Awake. -/
import Derived.Test.YtippadnbngcjlaaGreatDoorh114
import Derived.Test.YtippadnbngcjlaaGreatDoorh130
import Derived.Test.YtippadnbngcjlaaGreatDoorh131
import Derived.Test.YtippadnbngcjlaaGreatDoorh122
namespace Go.Proofs.YtippadnbngcjlaaGreatDoor
set_option linter.unusedVariables false

/- minimal, as a tree of questions. -/
section
open Go.RowKit
def scanT {α : Type} (f : List Int → Tr (List Int) Int α) (d : Tr (List Int) Int α) : List (List Int) → Tr (List Int) Int α
 | [] => d
 | q :: qs => .ask q fun v => if v = 2 then f q else scanT f d qs
section
variable {α : Type} {f : List Int → Tr (List Int) Int α} {d : Tr (List Int) Int α} {qs : List (List Int)} {k : Nat} {q : List Int} {ans : List Int} {u u' : Nat} {kn kn' : Kn} {v : Int}
theorem scan_done (h : qs.length ≤ k) : scanT f d (qs.drop k) = d := by rw [List.drop_of_length_le h]; rfl
theorem scan_at (h : qs[k]? = some q) : scanT f d (qs.drop k) = .ask q fun v => if v = 2 then f q else scanT f d (qs.drop (k + 1)) := by
 have hk := (List.getElem?_eq_some_iff.1 h).1
 have he : qs[k] = q := (List.getElem?_eq_some_iff.1 h).2
 rw [List.drop_eq_getElem_cons hk, he]
 rfl
theorem scan_none (h : qs[k]? = some q) (ha : askV ans u kn q = none) : (scanT f d (qs.drop k)).go (askS ans) (u, kn) = .inl q := by
 rw [scan_at h]; exact Tr.go_none (askS_none ha)
theorem scan_some (h : qs[k]? = some q) (ha : askV ans u kn q = some (v, u', kn')) : (scanT f d (qs.drop k)).go (askS ans) (u, kn) = (if v = 2 then f q else scanT f d (qs.drop (k + 1))).go (askS ans) (u', kn') := by
 rw [scan_at h]; exact Tr.go_some (askS_some ha)
end
def minFin (c : List Int) : Tr (List Int) Int (List Int) := if c.length = 1 then .ask [] fun v => .ret (if v = 2 then [] else c) else .ret c
def minT : Nat → List Int → Nat → Tr (List Int) Int (List Int)
  | 0, c, _ => .ret c
  | t + 1, c, g => if 2 ≤ c.length then
      scanT (fun x => minT t x 2) (scanT (fun x => minT t x (max (g - 1) 2)) (if c.length ≤ g then minFin c else minT t c (min (2 * g) c.length)) ((chunksOf c g).map (minus c))) (chunksOf c g)
    else minFin c
def minM (c : List Int) (g : Nat) : Nat := c.length * 1000 + (c.length - g)
theorem chunkOf_sub (xs : List Int) (N k : Nat) : (chunkOf xs N k).Sublist xs := (List.take_sublist _ _).trans (List.drop_sublist _ _)
theorem isSet_sub {n : Int} {xs ys : List Int} (h : isSet n xs = true) (hs : ys.Sublist xs) : isSet n ys = true := by
 obtain ⟨h1, h2⟩ := isSet_iff.1 h
 exact isSet_iff.2 ⟨fun x hx => h1 x (hs.subset hx), h2.sublist hs⟩
theorem isSet_minus {n : Int} {xs : List Int} (h : isSet n xs = true) (ys : List Int) : isSet n (minus xs ys) = true := isSet_sub h List.filter_sublist
theorem chunk_len {xs : List Int} {N k : Nat} (hN : 2 ≤ N) (hNm : N ≤ xs.length) (hk : k < N) : 0 < (chunkOf xs N k).length ∧ (chunkOf xs N k).length < xs.length := by
 rw [chunkOf_length hk]
 have h1 := cut_lt hk hNm
 have h2 := cut_le (m := xs.length) hk
 refine ⟨by omega, ?_⟩
 rcases Nat.eq_zero_or_pos k with rfl | h0
 ·have : (0 + 1) * xs.length / N < xs.length := by
   rw [Nat.zero_add, Nat.one_mul]
   exact Nat.div_lt_self (by omega) (by omega)
  have := Nat.sub_le ((0 + 1) * xs.length / N) (0 * xs.length / N)
  omega
 ·have : 0 < k * xs.length / N := Nat.div_pos (Nat.le_trans hNm (Nat.le_mul_of_pos_left _ h0)) (by omega)
  omega
theorem minus_len {xs ys : List Int} (h0 : 0 < ys.length) (hs : ∀ y ∈ ys, y ∈ xs) : (minus xs ys).length < xs.length := by
 obtain ⟨y, hy⟩ := List.exists_mem_of_length_pos h0
 unfold minus
 rw [List.length_filter_lt_length_iff_exists]
 refine ⟨y, hs y hy, ?_⟩
 simpa using hy
theorem cutN_ge {m g : Nat} (hg : 2 ≤ g) (hm : 2 ≤ m) : 2 ≤ cutN m g := by unfold cutN; omega
theorem chunk_get {c : List Int} {g k : Nat} (hk : k < cutN c.length g) : (chunksOf c g)[k]? = some (chunkOf c (cutN c.length g) k) := chunksOf_get hk
theorem rest_get {c : List Int} {g k : Nat} (hk : k < cutN c.length g) : ((chunksOf c g).map (minus c))[k]? = some (minus c (chunkOf c (cutN c.length g) k)) := by
 rw [List.getElem?_map, chunk_get hk]; rfl
theorem min_chunk {c : List Int} {g k n : Nat} (hs : isSet n c = true) (hg : 2 ≤ g) (hm : 2 ≤ c.length) (hl : c.length ≤ 256) (hk : k < cutN c.length g) :
  isSet n (chunkOf c (cutN c.length g) k) = true ∧ minM (chunkOf c (cutN c.length g) k) 2 < minM c g ∧ (chunkOf c (cutN c.length g) k).length ≤ 256 := by
 have h1 := chunk_len (cutN_ge hg hm) (cutN_le _ _) hk
 refine ⟨isSet_sub hs (chunkOf_sub _ _ _), ?_, by omega⟩
 unfold minM
 omega
theorem min_rest {c : List Int} {g k n : Nat} (hs : isSet n c = true) (hg : 2 ≤ g) (hm : 2 ≤ c.length) (hl : c.length ≤ 256) (hk : k < cutN c.length g) :
  isSet n (minus c (chunkOf c (cutN c.length g) k)) = true ∧ minM (minus c (chunkOf c (cutN c.length g) k)) (max (g - 1) 2) < minM c g ∧ (minus c (chunkOf c (cutN c.length g) k)).length ≤ 256 := by
 have h1 := chunk_len (cutN_ge hg hm) (cutN_le _ _) hk
 have h2 := minus_len h1.1 fun y hy => (chunkOf_sub _ _ _).subset hy
 refine ⟨isSet_minus hs _, ?_, by omega⟩
 unfold minM
 omega
theorem min_finer {c : List Int} {g : Nat} (hg : 2 ≤ g) (hl : g < c.length) : minM c (min (2 * g) c.length) < minM c g ∧ 2 ≤ min (2 * g) c.length := by
 unfold minM
 omega
theorem minT_le1 {t : Nat} {c : List Int} {g : Nat} (h : ¬ 2 ≤ c.length) : minT (t + 1) c g = minFin c := if_neg h
theorem minT_two {t : Nat} {c : List Int} {g : Nat} (h : 2 ≤ c.length) : minT (t + 1) c g =
  scanT (fun x => minT t x 2) (scanT (fun x => minT t x (max (g - 1) 2)) (if c.length ≤ g then minFin c else minT t c (min (2 * g) c.length)) ((chunksOf c g).map (minus c))) (chunksOf c g) := if_pos h
end

/- List as a tree of questions. -/
section
open Go.RowKit
namespace Tr
section
variable {Q A α β S : Type}
def map (f : α → β) : Tr Q A α → Tr Q A β
 | .ret a => .ret (f a)
 | .ask q k => .ask q fun v => (k v).map f
theorem go_map (f : α → β) (step : S → Q → Option (A × S)) : ∀ (t : Tr Q A α) (s : S), (t.map f).go step s = match t.go step s with | .inl q => .inl q | .inr (a, s') => .inr (f a, s')
  | .ret a, s => rfl
  | .ask q k, s => by
    rcases h : step s q with _ | ⟨v, s'⟩
    · rw [map, go_none h, go_none h]
    · rw [map, go_some h, go_some h]; exact go_map f step (k v) s'
theorem ends_true {P : α → Prop} (h : ∀ a, P a) : ∀ t : Tr Q A α, t.Ends P
 | .ret a => h a
 | .ask q k => fun v => ends_true h (k v)
theorem ends_map {f : α → β} {P : β → Prop} : ∀ {t : Tr Q A α}, t.Ends (fun a => P (f a)) → (t.map f).Ends P
 | .ret _, h => h
 | .ask q k, h => fun v => ends_map (h v)
end
end Tr
section
variable {α : Type} {f : List Int → Tr (List Int) Int α} {d : Tr (List Int) Int α} {P : List Int → Prop} {R : α → Prop}
theorem scan_ends (hd : d.Ends R) : ∀ {qs : List (List Int)}, (∀ q ∈ qs, (f q).Ends R) → (scanT f d qs).Ends R
  | [], _ => hd
  | q :: qs, h => fun v => by
    show Tr.Ends R (if v = 2 then _ else _)
    split
    · exact h q (by simp)
    · exact scan_ends hd fun x hx => h x (by simp [hx])
end
theorem chunksOf_sub {xs l : List Int} {g : Int} (h : l ∈ chunksOf xs g) : l.Sublist xs := by
 unfold chunksOf at h
 obtain ⟨k, _, rfl⟩ := List.mem_map.1 h
 exact chunkOf_sub _ _ _
theorem isSet_nil (n : Int) : isSet n [] = true := isSet_iff.2 ⟨by simp, by simp⟩
theorem minFin_ends {n : Int} {c : List Int} (h : isSet n c = true) : (minFin c).Ends fun q => isSet n q = true := by
 unfold minFin
 split
 ·intro v
  show isSet n (if v = 2 then [] else c) = true
  split
  ·exact isSet_nil n
  ·exact h
 ·exact h
theorem minT_ends {n : Int} : ∀ (t : Nat) (c : List Int) (g : Nat), isSet n c = true → (minT t c g).Ends fun q => isSet n q = true
  | 0, _, _, h => h
  | t + 1, c, g, h => by
    by_cases h2 : 2 ≤ c.length
    · rw [minT_two h2]
      refine scan_ends (scan_ends ?_ fun q hq => ?_) fun q hq => ?_
      · split
        · exact minFin_ends h
        · exact minT_ends t _ _ h
      · obtain ⟨x, _, rfl⟩ := List.mem_map.1 hq
        exact minT_ends t _ _ (isSet_minus h x)
      · exact minT_ends t _ _ (isSet_sub h (chunksOf_sub hq))
    · rw [minT_le1 h2]; exact minFin_ends h

def listT (n : Nat) : Tr (List Int) Int Res := .ask (upTo n) fun v => if v = 2 then (minT (minM (upTo n) 2 + 1) (upTo n) 2).map fun c => (0, c, []) else .ret (7, [], [])
def listOf (n : Int) (ans : List Int) : Qst × Int := if 256 < n then (qNone, 3) else qOf ans (listT n.toNat)
end

/- What minimal comes to (a copy of the part of Dif that trees need): plain. -/
section
open Go.RowKit
section
variable {x : List Int} {k : Nat} {g : Int}
theorem dif_chunk {d : List Int} (h : k < cutN d.length g) : (chunksOf d g)[k]? = some (chunkOf d (cutN d.length g) k) := chunksOf_get h
theorem mem_chunks {d : List Int} {g : Int} (h : x ∈ chunksOf d g) : ∃ k, k < cutN d.length g ∧ chunkOf d (cutN d.length g) k = x := by
 unfold chunksOf at h
 obtain ⟨k, hk, rfl⟩ := List.mem_map.1 h
 exact ⟨k, by simpa using hk, rfl⟩
theorem chunk_single {xs : List Int} {k : Nat} {y : Int} (h : xs[k]? = some y) : chunkOf xs xs.length k = [y] := by
 obtain ⟨hk, he⟩ := List.getElem?_eq_some_iff.1 h
 have hp : 0 < xs.length := by omega
 unfold chunkOf
 rw [Nat.mul_div_cancel _ hp, Nat.mul_div_cancel _ hp, List.drop_eq_getElem_cons hk, he, show k + 1 - k = 1 by omega]
 rfl
theorem cutN_all {m g : Nat} (hg : 2 ≤ g) (h : m ≤ g) : cutN m g = m := by unfold cutN; omega
end
section
variable {α : Type} {f : List Int → Tr (List Int) Int α} {d : Tr (List Int) Int α}
theorem scan_res (o : List Int → Int) : ∀ qs : List (List Int), (∃ q ∈ qs, o q = 2 ∧ (scanT f d qs).res o = (f q).res o) ∨ ((∀ q ∈ qs, o q ≠ 2) ∧ (scanT f d qs).res o = d.res o)
  | [] => .inr ⟨by simp, rfl⟩
  | q :: qs => by
    by_cases h : o q = 2
    · refine .inl ⟨q, by simp, h, ?_⟩
      show Tr.res o (if _ then _ else _) = _
      rw [if_pos h]
    · have e : (scanT f d (q :: qs)).res o = (scanT f d qs).res o := by
        show Tr.res o (if _ then _ else _) = _
        rw [if_neg h]
      rw [e]
      rcases scan_res o qs with ⟨q', h1, h2, h3⟩ | ⟨h1, h2⟩
      · exact .inl ⟨q', by simp [h1], h2, h3⟩
      · refine .inr ⟨fun q' hq' => ?_, h2⟩
        rcases List.mem_cons.1 hq' with rfl | hq'
        · exact h
        · exact h1 q' hq'
end
section
variable {n : Nat}
structure MinOk (n : Nat) (o : List Int → Int) (c : List Int) : Prop where
 set : isSet n c = true
 fails : o c = 2
 min : ∀ x ∈ c, o (minus c [x]) ≠ 2
theorem minus_self (x : Int) : minus [x] [x] = [] := by simp [minus]
theorem minFin_ok {o : List Int → Int} {c : List Int} (hs : isSet n c = true) (hf : o c = 2) (h : c.length ≠ 1 → ∀ x ∈ c, o (minus c [x]) ≠ 2) : MinOk n o ((minFin c).res o) := by
  unfold minFin
  by_cases h1 : c.length = 1
  · rw [if_pos h1]
    show MinOk n o (if o [] = 2 then [] else c)
    by_cases h2 : o [] = 2
    · rw [if_pos h2]
      exact ⟨isSet_nil _, h2, by simp⟩
    · rw [if_neg h2]
      refine ⟨hs, hf, fun x hx => ?_⟩
      match c, h1, hx with
      | [y], _, hx =>
        simp at hx
        subst hx
        rw [minus_self]
        exact h2
  · rw [if_neg h1]
    exact ⟨hs, hf, h h1⟩
theorem minT_ok (o : List Int → Int) (t : Nat) : ∀ (c : List Int) (g : Nat), isSet n c = true → 2 ≤ g → c.length ≤ 256 → minM c g < t → Hid (o c = 2) → MinOk n o ((minT t c g).res o) := by
  induction t with
  | zero => intro c g _ _ _ h; exact absurd h (Nat.not_lt_zero _)
  | succ t ih =>
    intro c g hs hg hl hm hf
    by_cases h2 : 2 ≤ c.length
    · rw [minT_two h2]
      rcases scan_res o (chunksOf c g) (f := fun x => minT t x 2) (d := scanT (fun x => minT t x (max (g - 1) 2)) (if c.length ≤ g then minFin c else minT t c (min (2 * g) c.length)) ((chunksOf c g).map (minus c))) with ⟨q, hq, hq2, e⟩ | ⟨ha, e⟩
      · rw [e]
        obtain ⟨k, hk, rfl⟩ := mem_chunks hq
        obtain ⟨x1, x2, x3⟩ := min_chunk (n := n) hs hg h2 hl hk
        exact ih _ _ x1 (by omega) x3 (Nat.lt_of_lt_of_le x2 (Nat.le_of_lt_succ hm)) hq2
      · rw [e]
        rcases scan_res o ((chunksOf c g).map (minus c)) (f := fun x => minT t x (max (g - 1) 2)) (d := if c.length ≤ g then minFin c else minT t c (min (2 * g) c.length)) with ⟨q, hq, hq2, e⟩ | ⟨hb, e⟩
        · rw [e]
          obtain ⟨x, hx, rfl⟩ := List.mem_map.1 hq
          obtain ⟨k, hk, rfl⟩ := mem_chunks hx
          obtain ⟨x1, x2, x3⟩ := min_rest (n := n) hs hg h2 hl hk
          exact ih _ _ x1 (by omega) x3 (Nat.lt_of_lt_of_le x2 (Nat.le_of_lt_succ hm)) hq2
        · rw [e]
          by_cases hge : c.length ≤ g
          · rw [if_pos hge]
            refine minFin_ok hs hf.out fun _ y hy => ?_
            obtain ⟨k, hk, hky⟩ := List.mem_iff_getElem.1 hy
            have hc := cutN_all hg hge
            have h3 := dif_chunk (g := g) (d := c) (k := k) (by rw [hc]; exact hk)
            rw [hc, chunk_single (by rw [List.getElem?_eq_getElem hk, hky])] at h3
            exact hb _ (List.mem_map.2 ⟨[y], List.mem_of_getElem? h3, rfl⟩)
          · rw [if_neg hge]
            obtain ⟨x1, x2⟩ := min_finer (c := c) hg (Nat.lt_of_not_le hge)
            exact ih _ _ hs x2 hl (Nat.lt_of_lt_of_le x1 (Nat.le_of_lt_succ hm)) hf
    · rw [minT_le1 h2]
      refine minFin_ok hs hf.out fun h1 y hy => ?_
      have := List.length_pos_of_mem hy
      omega
end
end

/- minimal: what holds between its steps; the closure that asks. -/
section
open Go Go.RowKit
theorem lfail_got (sb s km : Nat) (ans : List Int) (used : Nat) (kn : Kn) (A : Option Addr) (ca : Nat) (q : List Int) (w : World) (hb : Blk w sb 137 #[.pointer (some ⟨s, 0, none⟩)]) (h : SK w s km ans used kn) (ha : Rd w (.int .i64) A ca q) (hlen : q.length ≤ 1000000) (hin : I64 q) (htab : Tab w)
  {v : Int} {u : Nat} {kn' : Kn} (hv : askV ans used kn q = some (v, u, kn')) :
  Calls Tryz.prog 81 #[.slice A q.length ca, .pointer (some ⟨sb, 0, none⟩)] w (FailsGot w s km ans (v == 2) u kn') := by
 have HV := Lib.hid hv
 have e0 := hb.cell 0 rfl
 clear hv
 go_enter Tryz.func81, Tryz.ntmps81
 go_wp2_with fail
 refine (fails_got s km ans used kn A ca q w h ha hlen hin htab HV.out).mono ?_
 rintro e w1 ⟨rfl, hf1, hs1⟩
 go_wp2
 go_ret
 exact ⟨rfl, hf1, hs1⟩
theorem lfail_ask (sb s km : Nat) (ans : List Int) (used : Nat) (kn : Kn) (A : Option Addr) (ca : Nat) (q : List Int) (w : World) (hb : Blk w sb 137 #[.pointer (some ⟨s, 0, none⟩)]) (h : SK w s km ans used kn) (ha : Rd w (.int .i64) A ca q) (hlen : q.length ≤ 1000000) (hin : I64 q) (htab : Tab w)
  (hv : askV ans used kn q = none) :
  Calls Tryz.prog 81 #[.slice A q.length ca, .pointer (some ⟨sb, 0, none⟩)] w (Asks w q) := by
 have HV := Lib.hid hv
 have e0 := hb.cell 0 rfl
 clear hv
 go_enter Tryz.func81, Tryz.ntmps81
 go_wp2_with fail
 refine (fails_ask s km ans used kn A ca q w h ha hlen hin htab HV.out).mono ?_
 rintro e w1 ⟨A1, c1, rfl, hr1, hf1, hn1⟩
 go_wp2
 exact ⟨rfl, A1, c1, rfl, hr1, hf1, hn1⟩
structure MinS (w0 w : World) (s km sb B : Nat) (ans : List Int) (ms : List Nat) (A : Option Addr) (cc : Nat) (c : List Int) (g u : Nat) (kn : Kn) (W : World) : Prop where
 fr0 : Fr [] w0 W
 fr : Fr [s, km] w W
 sk : SK W s km ans u kn
 cb : Blk W w.heap.size 53 #[.slice A c.length cc]
 rd : Rd W (.int .i64) A cc c
 at_ : 0 < c.length → ∀ a, A = some a → B ≤ a.block ∧ a.block ≠ w.heap.size + 1 + 1
 fb : Blk W (w.heap.size + 1) 107 #[.func (.func 81) #[] #[.pointer (some ⟨sb, 0, none⟩)]]
 gb : Blk W (w.heap.size + 1 + 1) 3 #[.int .i64 g]
 sbb : Blk W sb 137 #[.pointer (some ⟨s, 0, none⟩)]
 marks : ∀ D ∈ ms, w.heap.size < D ∧ W.heap[D]? = some (.deferred (some []))
structure MinL (w0 w : World) (s km sb B : Nat) : Prop where
 h0 : w0.heap.size ≤ km
 h1 : km < s
 h2 : s < B
 h3 : B ≤ sb
 h4 : sb < w.heap.size
section
variable {w0 w W W' : World} {s km sb B cc g u u' : Nat} {ans : List Int} {ms : List Nat} {A : Option Addr} {c : List Int} {kn kn' : Kn}
theorem MinS.same {S : List Nat} (L : MinL w0 w s km sb B) (h : MinS w0 w s km sb B ans ms A cc c g u kn W) (hf : Fr S W W') (hw0 : ∀ x ∈ S, w.heap.size ≤ x) (hc : w.heap.size ∉ S) (hfb : w.heap.size + 1 ∉ S) (hg : w.heap.size + 1 + 1 ∉ S)
  (hA : 0 < c.length → ∀ a, A = some a → a.block ∉ S) (hm : ∀ D ∈ ms, D ∉ S) : MinS w0 w s km sb B ans ms A cc c g u kn W' := by
 obtain ⟨l0, l1, l2, l3, l4⟩ := L
 have hz := h.fr.size
 have hz0 := h.fr0.size
 exact ⟨h.fr0.trans2 hf fun x hx => by have := hw0 x hx; right; omega, h.fr.trans2 hf fun x hx => .inr (hw0 x hx), h.sk.fr hf (fun hx => by have := hw0 _ hx; omega) (fun hx => by have := hw0 _ hx; omega) (fun x hx => by have := hw0 x hx; omega),
  h.cb.fr hf hc, h.rd.fr hf hA, h.at_, h.fb.fr hf hfb, h.gb.fr hf hg, h.sbb.fr hf (fun hx => by have := hw0 _ hx; omega), fun D hD => ⟨(h.marks D hD).1, hf.heap (h.marks D hD).2 (hm D hD)⟩⟩
theorem MinS.fr_ (L : MinL w0 w s km sb B) (h : MinS w0 w s km sb B ans ms A cc c g u kn W) (hf : Fr [] W W') : MinS w0 w s km sb B ans ms A cc c g u kn W' :=
 h.same L hf (by simp) (by simp) (by simp) (by simp) (by simp) (by simp)
theorem MinS.nc {D : Nat} (L : MinL w0 w s km sb B) (hD : w.heap.size ≤ D) (hms : ∀ D' ∈ ms, D' < D) (h : MinS w0 w s km sb B ans ms A cc c g u kn W) (hn : Nc W D) (hf : Fr [D, D + 1] W W') : MinS w0 w s km sb B ans ms A cc c g u kn W' :=
 h.same L hf (by simp; omega) (hn.blk h.cb) (hn.blk h.fb) (hn.blk h.gb) (hn.rd h.rd) (fun D' hD' => by have := hms D' hD'; simp; omega)
theorem MinS.tab (ht : Tab w0) (h : MinS w0 w s km sb B ans ms A cc c g u kn W) : Tab W := ht.fr h.fr0
theorem MinS.asked (L : MinL w0 w s km sb B) (h : MinS w0 w s km sb B ans ms A cc c g u kn W) (hf : Fr [s, km] W W') (hsk : SK W' s km ans u' kn') : MinS w0 w s km sb B ans ms A cc c g u' kn' W' := by
 obtain ⟨l0, l1, l2, l3, l4⟩ := L
 refine ⟨h.fr0.trans2 hf ?_, h.fr.trans hf, hsk, h.cb.fr hf ?_, h.rd.fr hf ?_, h.at_, h.fb.fr hf ?_, h.gb.fr hf ?_, h.sbb.fr hf ?_, fun D hD => ⟨(h.marks D hD).1, hf.heap (h.marks D hD).2 ?_⟩⟩
 ·simp; omega
 ·simp; omega
 ·intro h0 a ha
  have := (h.at_ h0 a ha).1
  simp; omega
 ·simp; omega
 ·simp; omega
 ·simp; omega
 ·have := (h.marks D hD).1
  simp; omega
theorem notI64s {A : Option Addr} {n c : Nat} (i : Nat) (u : Value) (h : (#[Value.slice A n c] : Array Value)[i]? = some u) (x : Int) : u ≠ .int .i64 x := by
 match i, h with
 | 0, h => simp at h; subst h; simp
theorem MinS.put {A2 : Option Addr} {c2 g2 : Nat} {x : List Int} (L : MinL w0 w s km sb B) (h : MinS w0 w s km sb B ans ms A cc c g u kn W) (hr : Rd W (.int .i64) A2 c2 x) (ha : 0 < x.length → ∀ a, A2 = some a → B ≤ a.block ∧ a.block ≠ w.heap.size + 1 + 1) :
  MinS w0 w s km sb B ans ms A2 c2 x g2 u kn ((W.setCell ⟨w.heap.size, 0, none⟩ (.slice A2 x.length c2)).setCell ⟨w.heap.size + 1 + 1, 0, none⟩ (.int .i64 g2)) := by
 obtain ⟨l0, l1, l2, l3, l4⟩ := L
 have hz := h.fr.size
 have hz0 := h.fr0.size
 have hf : Fr [w.heap.size, w.heap.size + 1 + 1] W ((W.setCell ⟨w.heap.size, 0, none⟩ (.slice A2 x.length c2)).setCell ⟨w.heap.size + 1 + 1, 0, none⟩ (.int .i64 g2)) :=
  ((Fr.refl _ W).setCell (.inl (by simp)) _).setCell (.inl (by simp)) _
 have hgb2 : Blk (W.setCell ⟨w.heap.size, 0, none⟩ (.slice A2 x.length c2)) (w.heap.size + 1 + 1) 3 #[.int .i64 g] := h.gb.far (p := ⟨w.heap.size, 0, none⟩) (by show w.heap.size + 1 + 1 ≠ w.heap.size; omega) _
 have hcb2 : Blk (W.setCell ⟨w.heap.size, 0, none⟩ (.slice A2 x.length c2)) w.heap.size 53 #[.slice A2 x.length c2] := by simpa using h.cb.set_ 0 _
 refine ⟨h.fr0.trans2 hf (by simp; omega), h.fr.trans2 hf (by simp; omega), h.sk.fr hf (by simp; omega) (by simp; omega) (by simp; omega), hcb2.far (p := ⟨w.heap.size + 1 + 1, 0, none⟩) (by show w.heap.size ≠ w.heap.size + 1 + 1; omega) _, hr.fr hf ?_, ha, h.fb.fr hf (by simp),
  by simpa using hgb2.set_ 0 _, h.sbb.fr hf (by simp; omega), fun D hD => ⟨(h.marks D hD).1, hf.heap (h.marks D hD).2 ?_⟩⟩
 ·intro h0 a hA hm
  have h1 := (ha h0 a hA).2
  have h2 := hr.apart h.cb notI64s h0 a hA
  simp at hm
  omega
 ·intro hm
  simp at hm
  have h1 := (h.marks D hD).2
  rcases hm with rfl | rfl
  ·rw [show W.heap[w.heap.size]? = _ from h.cb] at h1; cases h1
  ·rw [show W.heap[w.heap.size + 1 + 1]? = _ from h.gb] at h1; cases h1
theorem MinS.putC {A2 : Option Addr} {c2 : Nat} {x : List Int} (L : MinL w0 w s km sb B) (h : MinS w0 w s km sb B ans ms A cc c g u kn W) (hr : Rd W (.int .i64) A2 c2 x) (ha : 0 < x.length → ∀ a, A2 = some a → B ≤ a.block ∧ a.block ≠ w.heap.size + 1 + 1) :
  MinS w0 w s km sb B ans ms A2 c2 x g u kn (W.setCell ⟨w.heap.size, 0, none⟩ (.slice A2 x.length c2)) := by
 obtain ⟨l0, l1, l2, l3, l4⟩ := L
 have hz := h.fr.size
 have hz0 := h.fr0.size
 have hf : Fr [w.heap.size] W (W.setCell ⟨w.heap.size, 0, none⟩ (.slice A2 x.length c2)) := (Fr.refl _ W).setCell (.inl (by simp)) _
 have hcb2 : Blk (W.setCell ⟨w.heap.size, 0, none⟩ (.slice A2 x.length c2)) w.heap.size 53 #[.slice A2 x.length c2] := by simpa using h.cb.set_ 0 _
 refine ⟨h.fr0.trans2 hf (by simp; omega), h.fr.trans2 hf (by simp), h.sk.fr hf (by simp; omega) (by simp; omega) (by simp; omega), hcb2, hr.fr hf ?_, ha, h.fb.fr hf (by simp),
  h.gb.fr hf (by simp only [List.mem_singleton]; omega), h.sbb.fr hf (by simp; omega), fun D hD => ⟨(h.marks D hD).1, hf.heap (h.marks D hD).2 ?_⟩⟩
 ·intro h0 a hA hm
  have h2 := hr.apart h.cb notI64s h0 a hA
  simp at hm
  omega
 ·intro hm
  have := (h.marks D hD).1
  simp at hm
  omega
theorem MinS.putG {g2 : Nat} (L : MinL w0 w s km sb B) (h : MinS w0 w s km sb B ans ms A cc c g u kn W) : MinS w0 w s km sb B ans ms A cc c g2 u kn (W.setCell ⟨w.heap.size + 1 + 1, 0, none⟩ (.int .i64 g2)) := by
 obtain ⟨l0, l1, l2, l3, l4⟩ := L
 have hz := h.fr.size
 have hz0 := h.fr0.size
 have hf : Fr [w.heap.size + 1 + 1] W (W.setCell ⟨w.heap.size + 1 + 1, 0, none⟩ (.int .i64 g2)) := (Fr.refl _ W).setCell (.inl (by simp)) _
 refine ⟨h.fr0.trans2 hf (by simp; omega), h.fr.trans2 hf (by simp; omega), h.sk.fr hf (by simp; omega) (by simp; omega) (by simp; omega), h.cb.fr hf (by simp only [List.mem_singleton]; omega), h.rd.fr hf ?_, h.at_, h.fb.fr hf (by simp only [List.mem_singleton]; omega),
  by simpa using h.gb.set_ 0 _, h.sbb.fr hf (by simp; omega), fun D hD => ⟨(h.marks D hD).1, hf.heap (h.marks D hD).2 ?_⟩⟩
 ·intro h0 a hA hm
  exact (h.at_ h0 a hA).2 (by simpa using hm)
 ·intro hm
  obtain rfl : D = w.heap.size + 1 + 1 := by simpa using hm
  have h1 := (h.marks _ hD).2
  rw [show W.heap[w.heap.size + 1 + 1]? = _ from h.gb] at h1; cases h1
end
end

/- minimal: the walk. -/
section
open Go Go.RowKit
attribute [local go_sem] Oper.semAt_some
def MinAct (w : World) (f : Nat → Value) (ms : List Nat) : Act := { tmps := #[f 0, f 1, .pointer (some ⟨w.heap.size, 0, none⟩), .pointer (some ⟨w.heap.size + 1, 0, none⟩), f 4, .pointer (some ⟨w.heap.size + 1 + 1, 0, none⟩), f 6, f 7, f 8, f 9, f 10, f 11, f 12, f 13, f 14, f 15, f 16, f 17, f 18, f 19, f 20, f 21, f 22, f 23, f 24, f 25, f 26, f 27, f 28, f 29, f 30, f 31, f 32, f 33, f 34, f 35, f 36, f 37, f 38, f 39, f 40, f 41, f 42, f 43, f 44, f 45, f 46, f 47, f 48, f 49, f 50, f 51], defers := ms.map markOf }
theorem minAct_of {w : World} {ms : List Nat} {x0 x1 x4 x6 x7 x8 x9 x10 x11 x12 x13 x14 x15 x16 x17 x18 x19 x20 x21 x22 x23 x24 x25 x26 x27 x28 x29 x30 x31 x32 x33 x34 x35 x36 x37 x38 x39 x40 x41 x42 x43 x44 x45 x46 x47 x48 x49 x50 x51 : Value} : ∃ f, ({ tmps := #[x0, x1, .pointer (some ⟨w.heap.size, 0, none⟩), .pointer (some ⟨w.heap.size + 1, 0, none⟩), x4, .pointer (some ⟨w.heap.size + 1 + 1, 0, none⟩), x6, x7, x8, x9, x10, x11, x12, x13, x14, x15, x16, x17, x18, x19, x20, x21, x22, x23, x24, x25, x26, x27, x28, x29, x30, x31, x32, x33, x34, x35, x36, x37, x38, x39, x40, x41, x42, x43, x44, x45, x46, x47, x48, x49, x50, x51], defers := ms.map markOf } : Act) = MinAct w f ms :=
 ⟨fun i => (#[x0, x1, .pointer (some ⟨w.heap.size, 0, none⟩), .pointer (some ⟨w.heap.size + 1, 0, none⟩), x4, .pointer (some ⟨w.heap.size + 1 + 1, 0, none⟩), x6, x7, x8, x9, x10, x11, x12, x13, x14, x15, x16, x17, x18, x19, x20, x21, x22, x23, x24, x25, x26, x27, x28, x29, x30, x31, x32, x33, x34, x35, x36, x37, x38, x39, x40, x41, x42, x43, x44, x45, x46, x47, x48, x49, x50, x51] : Array Value)[i]?.getD undef, rfl⟩
def MinPost (w : World) (s km B : Nat) (ans : List Int) (r : List Int ⊕ (List Int × (Nat × Kn))) (e : Ending) (w' : World) : Prop :=
 match r with
 | .inl q => ∃ A c, e = .panicked [question (.slice A q.length c)] ∧ Rd w' (.int .i64) A c q ∧ Fr [s, km] w w' ∧ Nw B A
 | .inr (c, (u, kn)) => ∃ A cc, e = .returned (.slice A c.length cc) ∧ Rd w' (.int .i64) A cc c ∧ Fr [s, km] w w' ∧ SK w' s km ans u kn ∧ (0 < c.length → ∀ a, A = some a → B ≤ a.block)
structure MinQ (w : World) (s km B : Nat) (full : List Int ⊕ (List Int × (Nat × Kn))) (ms : List Nat) (ch : List PanicEntry) (W : World) : Prop where
 ex : ∃ q A cq, ch = [question (.slice A q.length cq)] ∧ Hid (full = .inl q) ∧ Rd W (.int .i64) A cq q ∧ Nw B A
 fr : Fr [s, km] w W
 marks : ∀ D ∈ ms, w.heap.size < D ∧ W.heap[D]? = some (.deferred (some []))
def MinO (w0 w : World) (s km sb B n : Nat) (ans : List Int) (full : List Int ⊕ (List Int × (Nat × Kn))) (ms : List Nat) (t : Nat) (W : World) : Prop :=
 ∃ A cc c g u kn, MinS w0 w s km sb B ans ms A cc c g u kn W ∧ (2 ≤ g ∧ g ≤ 256) ∧ c.length ≤ 256 ∧ minM c g < t ∧ Hid (isSet n c = true) ∧ Hid (full = (minT t c g).go (askS ans) (u, kn))
def MinMid (w0 w : World) (s km sb B n : Nat) (ans : List Int) (full : List Int ⊕ (List Int × (Nat × Kn))) : Exit → Act → World → Prop
 | .normal, a, W => ∃ f ms A cc c g u kn, a = MinAct w f ms ∧ ms.Nodup ∧ MinS w0 w s km sb B ans ms A cc c g u kn W ∧ c.length ≤ 256 ∧ Hid (full = (minFin c).go (askS ans) (u, kn))
 | .panic ch, a, W => ∃ ms, a.defers = ms.map markOf ∧ ms.Nodup ∧ MinQ w s km B full ms ch W
 | _, _, _ => False
section
variable {w0 w W W' : World} {s km sb B cc g u u' n : Nat} {ans : List Int} {ms : List Nat} {A : Option Addr} {c : List Int} {kn kn' : Kn} {full : List Int ⊕ (List Int × (Nat × Kn))} {ch : List PanicEntry}
theorem rd_nd {α : Type} {enc : α → Value} {xs : List α} (hm : ∀ D ∈ ms, w.heap.size < D ∧ W.heap[D]? = some (.deferred (some []))) (hr : Rd W enc A cc xs) : 0 < xs.length → ∀ a, A = some a → a.block ∉ ms := by
 intro h0 a ha hD
 obtain ⟨b, off, hA, hc⟩ := hr.at0 h0
 rw [hA] at ha
 injection ha with ha
 subst ha
 have h1 := hc 0 xs[0] (by simp)
 have h2 := (hm _ hD).2
 simp [World.cell?] at h1
 simp at h2
 simp [h2] at h1
theorem MinQ.leave (h : MinQ w s km B full ms ch W) (hf : Fr ms W W') : MinPost w s km B ans full (.panicked ch) W' := by
 obtain ⟨q, A, cq, rfl, hfu, hr, hn⟩ := h.ex
 rw [hfu.out]
 exact ⟨A, cq, rfl, hr.fr hf (rd_nd h.marks hr), h.fr.trans2 hf fun x hx => .inr (Nat.le_of_lt (h.marks x hx).1), hn⟩
theorem MinS.leave {A2 : Option Addr} {c2 : Nat} {x : List Int} (L : MinL w0 w s km sb B) (h : MinS w0 w s km sb B ans ms A cc c g u kn W) (hr : Rd W (.int .i64) A2 c2 x) (hB : 0 < x.length → ∀ a, A2 = some a → B ≤ a.block) (hfu : full = .inr (x, (u, kn))) (hf : Fr ms W W') :
  MinPost w s km B ans full (.returned (.slice A2 x.length c2)) W' := by
 obtain ⟨l0, l1, l2, l3, l4⟩ := L
 rw [hfu]
 exact ⟨A2, c2, rfl, hr.fr hf (rd_nd h.marks hr), h.fr.trans2 hf fun x hx => .inr (Nat.le_of_lt (h.marks x hx).1),
  h.sk.fr hf (fun hm => by have := (h.marks _ hm).1; omega) (fun hm => by have := (h.marks _ hm).1; omega) (fun x hx => by have := (h.marks x hx).1; omega), hB⟩
theorem MinS.quit {A2 : Option Addr} {c2 : Nat} {q : List Int} (L : MinL w0 w s km sb B) (h : MinS w0 w s km sb B ans ms A cc c g u kn W) (hf : Fr [] W W') (hr : Rd W' (.int .i64) A2 c2 q) (hn : Nw W.heap.size A2) (hfu : Hid (full = .inl q)) :
  MinQ w s km B full ms [question (.slice A2 q.length c2)] W' := by
 obtain ⟨l0, l1, l2, l3, l4⟩ := L
 have hz := h.fr.size
 exact ⟨⟨q, A2, c2, rfl, hfu, hr, hn.mono (by omega)⟩, h.fr.trans0 hf, fun D hD => ⟨(h.marks D hD).1, hf.heap (h.marks D hD).2 (by simp)⟩⟩
end
def MinI (w0 w : World) (s km sb B : Nat) (ans : List Int) (full : List Int ⊕ (List Int × (Nat × Kn))) (ms : List Nat) (A : Option Addr) (cc : Nat) (c : List Int) (g D0 N : Nat) (fT : List Int → Tr (List Int) Int (List Int)) (dT : Tr (List Int) Int (List Int)) (qs : List (List Int)) (k : Nat) (W : World) : Prop :=
 k ≤ N ∧ ∃ u kn, MinS w0 w s km sb B ans ms A cc c g u kn W ∧ Blk W D0 53 #[.slice A c.length cc] ∧ Blk W (D0 + 1) 3 #[.int .i64 N] ∧ Hid (full = (scanT fT dT (qs.drop k)).go (askS ans) (u, kn))
section
variable {w0 w W W' : World} {s km sb B cc g u u' n t D D0 N k : Nat} {ans : List Int} {ms : List Nat} {A : Option Addr} {c : List Int} {kn kn' : Kn} {full : List Int ⊕ (List Int × (Nat × Kn))} {ch : List PanicEntry} {fT : List Int → Tr (List Int) Int (List Int)} {dT : Tr (List Int) Int (List Int)} {qs : List (List Int)}
theorem MinI.fr_ (L : MinL w0 w s km sb B) (h : MinI w0 w s km sb B ans full ms A cc c g D0 N fT dT qs k W) (hf : Fr [] W W') : MinI w0 w s km sb B ans full ms A cc c g D0 N fT dT qs k W' := by
 obtain ⟨h1, u, kn, h2, h3, h4, h5⟩ := h
 exact ⟨h1, u, kn, h2.fr_ L hf, h3.fr hf (by simp), h4.fr hf (by simp), h5⟩
theorem MinI.nc (L : MinL w0 w s km sb B) (hD : w.heap.size ≤ D) (hms : ∀ D' ∈ ms, D' < D) (h : MinI w0 w s km sb B ans full ms A cc c g D0 N fT dT qs k W) (hn : Nc W D) (hf : Fr [D, D + 1] W W') : MinI w0 w s km sb B ans full ms A cc c g D0 N fT dT qs k W' := by
 obtain ⟨h1, u, kn, h2, h3, h4, h5⟩ := h
 exact ⟨h1, u, kn, h2.nc L hD hms hn hf, h3.fr hf (hn.blk h3), h4.fr hf (hn.blk h4), h5⟩
theorem MinO.nc (L : MinL w0 w s km sb B) (hD : w.heap.size ≤ D) (hms : ∀ D' ∈ ms, D' < D) (h : MinO w0 w s km sb B n ans full ms t W) (hn : Nc W D) (hf : Fr [D, D + 1] W W') : MinO w0 w s km sb B n ans full ms t W' := by
 obtain ⟨A, cc, c, g, u, kn, h1, h2⟩ := h
 exact ⟨A, cc, c, g, u, kn, h1.nc L hD hms hn hf, h2⟩
theorem MinS.mark (h : MinS w0 w s km sb B ans ms A cc c g u kn W) (hD : w.heap.size < D) (hd : W.heap[D]? = some (.deferred (some []))) : MinS w0 w s km sb B ans (D :: ms) A cc c g u kn W :=
 ⟨h.fr0, h.fr, h.sk, h.cb, h.rd, h.at_, h.fb, h.gb, h.sbb, fun D' hD' => by
  rcases List.mem_cons.1 hD' with rfl | h'
  ·exact ⟨hD, hd⟩
  ·exact h.marks D' h'⟩
theorem MinO.mark (h : MinO w0 w s km sb B n ans full ms t W) (hD : w.heap.size < D) (hd : W.heap[D]? = some (.deferred (some []))) : MinO w0 w s km sb B n ans full (D :: ms) t W := by
 obtain ⟨A, cc, c, g, u, kn, h1, h2⟩ := h
 exact ⟨A, cc, c, g, u, kn, h1.mark hD hd, h2⟩
theorem MinQ.mark (h : MinQ w s km B full ms ch W) (hD : w.heap.size < D) (hd : W.heap[D]? = some (.deferred (some []))) : MinQ w s km B full (D :: ms) ch W :=
 ⟨h.ex, h.fr, fun D' hD' => by
  rcases List.mem_cons.1 hD' with rfl | h'
  ·exact ⟨hD, hd⟩
  ·exact h.marks D' h'⟩
theorem MinS.cold (h : MinS w0 w s km sb B ans ms A cc c g u kn W) (hn : Nc W D) : ∀ x ∈ [s, km, w.heap.size, w.heap.size + 1 + 1], x ∉ [D, D + 1] := by
 obtain ⟨A', c', hb, _⟩ := h.sk.srch.ex
 intro x hx
 simp only [List.mem_cons, List.not_mem_nil, or_false] at hx
 rcases hx with rfl | rfl | rfl | rfl
 ·exact hn.blk hb
 ·exact hn.mapAt h.sk.map
 ·exact hn.blk h.cb
 ·exact hn.blk h.gb
theorem MinS.clear {S : List Nat} (h : MinS w0 w s km sb B ans ms A cc c g u kn W) (hn : Nc W D) (hf : Fr S W W') (hS : ∀ x ∈ S, x ∈ [s, km, w.heap.size, w.heap.size + 1 + 1]) : Clear D W W' :=
 ⟨S, hf, fun hm => h.cold hn D (hS D hm) (by simp), fun hm => h.cold hn (D + 1) (hS _ hm) (by simp)⟩
theorem MinS.below (h : MinS w0 w s km sb B ans ms A cc c g u kn W) : ∀ D' ∈ ms, D' < W.heap.size := fun D' hD' => (Array.getElem?_eq_some_iff.1 (h.marks D' hD').2).1
end
set_option maxHeartbeats 6400000 in
theorem minimal_any (w0 w : World) (s km sb B n : Nat) (ans : List Int) (u0 : Nat) (kn0 : Kn) (A0 : Option Addr) (cc0 : Nat) (c0 : List Int) (L : MinL w0 w s km sb B) (ht : Tab w0) (hf0 : Fr [] w0 w) (hsk : SK w s km ans u0 kn0)
  (hr : Rd w (.int .i64) A0 cc0 c0) (hA : 0 < c0.length → ∀ a, A0 = some a → B ≤ a.block) (hset : isSet n c0 = true) (hl : c0.length ≤ 256) (hn : n ≤ 256) (hsb : Blk w sb 137 #[.pointer (some ⟨s, 0, none⟩)]) :
  Calls Tryz.prog 61 #[.slice A0 c0.length cc0, .func (.func 81) #[] #[.pointer (some ⟨sb, 0, none⟩)]] w (MinPost w s km B ans ((minT (minM c0 2 + 1) c0 2).go (askS ans) (u0, kn0))) := by
 obtain ⟨full, hful⟩ : ∃ r, (minT (minM c0 2 + 1) c0 2).go (askS ans) (u0, kn0) = r := ⟨_, rfl⟩
 rw [hful]
 obtain ⟨W0, hW0⟩ : ∃ W0, W0 = (((w.alloc (.cells #[.slice A0 c0.length cc0] 53)).alloc (.cells #[.func (.func 81) #[] #[.pointer (some ⟨sb, 0, none⟩)]] 107)).alloc (.cells #[.int .i64 2] 3)) := ⟨_, rfl⟩
 have hI0 : MinO w0 w s km sb B n ans full [] (minM c0 2 + 1) W0 := by
  have hs0 : MinS w0 w s km sb B ans [] A0 cc0 c0 2 u0 kn0 W0 := by
   have hfw : Fr [] w W0 := by rw [hW0]; exact frx
   refine ⟨hf0.trans hfw, hfw.mono (by simp), hsk.fr0 hfw, ?_, hr.fr0 hfw, fun h0 a ha => ⟨hA h0 a ha, ?_⟩, ?_, ?_, hsb.fr hfw (by simp), by simp⟩
   ·rw [hW0]; exact ((Blk.new w _ _ _ rfl).alloc _).alloc _
   ·have := hr.lt h0 a ha; omega
   ·rw [hW0]; exact (Blk.new _ _ _ _ (by simp)).alloc _
   ·rw [hW0]; exact Blk.new _ _ _ _ (by simp)
  exact ⟨A0, cc0, c0, 2, u0, kn0, hs0, ⟨Nat.le_refl _, by omega⟩, hl, Nat.lt_succ_self _, hset, hful.symm⟩
 have HW0 := Lib.hid hW0.symm
 clear hW0 hful
 refine calls_of_wpR Tryz.func61 rfl ?_
 simp only [Tryz.ntmps61, List.size_toArray, List.length_cons, List.length_nil, Nat.reduceAdd, Nat.reduceSub, Array.replicate_succ, Array.replicate_zero, List.push_toArray, List.append_toArray, List.nil_append, List.cons_append]
 refine wpR_seq (wpR_of_wp ?_)
 go_wp2
 refine wpR_scope ?_
 refine wpR_seq (wpR_of_wp ?_)
 go_wp2
 rw [HW0.out]
 refine wpR_seq (wpR_of_wp (wp_label ?_))
 refine wpR_seq (wpR_mono (Q := MinMid w0 w s km sb B n ans full) ?loop ?rest)
 case loop =>
  refine wpR_block (wpR_loop (fun t a W => ∃ f ms, a = MinAct w f ms ∧ ms.Nodup ∧ MinO w0 w s km sb B n ans full ms t W) (minM c0 2 + 1) ?_ ?round)
  ·obtain ⟨f, hf⟩ := minAct_of (w := w) (ms := [])
   exact ⟨f, [], hf, by simp, hI0⟩
  case round =>
   rintro t a W ⟨f, ms, rfl, hnd, A, cc, c, g, u, kn, hS, ⟨hg, hg2⟩, hcl, hm, hset, hfu⟩
   obtain ⟨s', rfl⟩ : ∃ s', t = s' + 1 := ⟨t - 1, by omega⟩
   refine ⟨s', rfl, fun K hK => ?_⟩
   have e0 := hS.cb.cell 0 rfl
   have e2 := hS.gb.cell 0 rfl
   have hcb := hS.rd.capBound
   by_cases h2 : 2 ≤ c.length
   ·have hd : decide ((c.length : Int) ≥ 2) = true := by simp; omega
    rw [minT_two h2] at hfu
    unfold MinAct
    refine wpR_seq (wpR_of_wp ?_)
    go_wp2_with fail
    refine wpR_block ?_
    refine wpR_seq (wpR_seq (wpR_of_wp ?_))
    go_wp2_with fail
    refine (cuts_any A cc c.length g W (by omega)).mono ?_
    rintro e w1 ⟨rfl, rfl⟩
    go_wp2
    refine wpR_block ?_
    have hent : ∀ args w, (callFunc 88 args).run Tryz.prog w = .ok (.enter 88 args) w := fun args w => by simp [go_sem]
    obtain ⟨b0, o0, hAA, _⟩ := hS.rd.at0 (by omega)
    subst hAA
    have hatb := (hS.at_ (by omega) _ rfl)
    have l1 := L.h1
    have l2 := L.h2
    have l3 := L.h3
    have l4 := L.h4
    have hNm := cutN_le c.length (g : Int)
    obtain ⟨qs2, hqs2⟩ : ∃ q, (chunksOf c g).map (minus c) = q := ⟨_, rfl⟩
    obtain ⟨d2, hd2⟩ : ∃ d, (if c.length ≤ g then minFin c else minT s' c (min (2 * g) c.length)) = d := ⟨_, rfl⟩
    rw [hqs2, hd2] at hfu
    obtain ⟨d1, hd1⟩ : ∃ d, scanT (fun x => minT s' x (max (g - 1) 2)) d2 qs2 = d := ⟨_, rfl⟩
    rw [hd1] at hfu
    have HD1 := Lib.hid hd1
    have HD2 := Lib.hid hd2
    have HQR := Lib.hid (fun k hk => rest_get (c := c) (g := g) (k := k) hk)
    have HLR : Hid (qs2.length = cutN c.length (g : Int)) := by show _ = _; rw [← hqs2, List.length_map, chunksOf_length]
    rw [hqs2] at HQR
    clear hqs2 hd1 hd2
    have HQS := Lib.hid (fun k hk => chunk_get (c := c) (g := g) (k := k) hk)
    have HLC := Lib.hid (chunksOf_length c (g : Int))
    generalize chunksOf c (g : Int) = qs at *
    obtain ⟨f1, hf1⟩ : ∃ f, (fun x => minT s' x 2) = f := ⟨_, rfl⟩
    rw [hf1] at hfu
    have HF1 : Hid (∀ x, f1 x = minT s' x 2) := by rw [← hf1]; exact fun _ => rfl
    clear hf1
    have HMC := Lib.hid (fun k hk => min_chunk (n := n) hset.out hg h2 hcl (k := k) hk)
    have HMR := Lib.hid (fun k hk => min_rest (n := n) hset.out hg h2 hcl (k := k) hk)
    have hgv := cuts_gives W.heap.size b0 o0 c.length cc (cutN c.length (g : Int)) (some ⟨b0, o0, none⟩) (fun _ => rfl) (by omega) hNm hS.rd.le hcb
    have hzW := hS.fr.size
    obtain ⟨N, HNN⟩ : ∃ N, Hid (cutN c.length (g : Int) = N) := ⟨_, rfl⟩
    rw [HNN.out] at hgv hNm HQS HQR HMC HMR HLC HLR ⊢
    obtain ⟨W1, hW1⟩ : ∃ W1, W1 = (W.alloc (.cells #[.slice (some ⟨b0, o0, none⟩) c.length cc] 53)).alloc (.cells #[.int .i64 N] 3) := ⟨_, rfl⟩
    have hz1 : W1.heap.size = W.heap.size + 1 + 1 := by rw [hW1]; simp
    have HZ1 := Lib.hid hz1
    have hfW1 : Fr [] W W1 := by rw [hW1]; exact frx
    have hI1 : MinI w0 w s km sb B ans full ms (some ⟨b0, o0, none⟩) cc c g W.heap.size N f1 d1 qs 0 W1 :=
     ⟨Nat.zero_le _, u, kn, hS.fr_ L hfW1, by rw [hW1]; exact (Blk.new W _ _ _ rfl).alloc _, by rw [hW1]; exact Blk.new _ _ _ _ (by simp), hfu⟩
    rw [← hW1]
    clear hW1 hz1
    have hmsb := hS.below
    clear hfu
    refine wpR_rangeFunc 15 rfl rfl hent hgv (MinI w0 w s km sb B ans full ms (some ⟨b0, o0, none⟩) cc c g W.heap.size N f1 d1 qs)
     (fun code W => code = .exit 1 ∧ MinO w0 w s km sb B n ans full ms s' W) (MinQ w s km B full ms) W1.heap.size rfl
     (fun k W W' h hn hf => h.nc L (by have := HZ1.out; omega) (fun D' hD' => by have := hmsb D' hD'; have := HZ1.out; omega) hn hf) (fun code W W' h hn hf => ⟨h.1, h.2.nc L (by have := HZ1.out; omega) (fun D' hD' => by have := hmsb D' hD'; have := HZ1.out; omega) hn hf⟩)
     (fun k W h => by obtain ⟨_, _, _, _, h3, h4, _⟩ := h; exact ⟨h3.cell 0 rfl, h4.cell 0 rfl⟩) (fun W hf _ => hI1.fr_ L hf)
     (fun k => { tmps := #[f 0, f 1, .pointer (some ⟨w.heap.size, 0, none⟩), .pointer (some ⟨w.heap.size + 1, 0, none⟩), f 4, .pointer (some ⟨w.heap.size + 1 + 1, 0, none⟩), chunkV b0 o0 c.length cc N k, f 7, f 8, .slice (some ⟨b0, o0, none⟩) c.length cc, .int .i64 c.length, .bool true, .slice (some ⟨b0, o0, none⟩) c.length cc, .int .i64 g, .func (.func 88) #[] #[.pointer (some ⟨W.heap.size + 1, 0, none⟩), .pointer (some ⟨W.heap.size, 0, none⟩)], chunkV b0 o0 c.length cc N k, f 16, f 17, f 18, f 19, f 20, f 21, f 22, f 23, f 24, f 25, f 26, f 27, f 28, f 29, f 30, f 31, f 32, f 33, f 34, f 35, f 36, f 37, f 38, f 39, f 40, f 41, f 42, f 43, f 44, f 45, f 46, f 47, f 48, f 49, f 50, f 51], defers := [] })
     ?assign ?body ?done ?stop ?pan
    case assign =>
     intro l k W K hK
     gi_wp2
     exact hK
    case body =>
     rintro k W2 hk ⟨_, u, kn, hS, hB1, hB2, hfu⟩ hn
     have hch := Lib.hid (chunkV_eq (b := b0) (o := o0) (c := cc) (N := N) (xs := c) hk)
     have hrc := (hS.rd.chunk hk hNm : Rd W2 (.int .i64) (some ⟨b0, o0 + k * c.length / N, none⟩) (cc - k * c.length / N) (chunkOf c N k))
     have hqk := Lib.hid (HQS.out k hk)
     obtain ⟨hcs, hcm, hcl2⟩ := HMC.out k hk
     rw [hch.out]
     generalize chunkOf c N k = q at *
     have e1 := hS.fb.cell 0 rfl
     have HCS := Lib.hid hcs
     rcases hq : askV ans u kn q with _ | ⟨v, u', kn'⟩
     ·have hR : Hid (full = .inl q) := by show _ = _; rw [hfu.out, scan_none hqk.out hq]
      have HQ := Lib.hid hq
      clear hq hfu hcs
      gi_wp2_with fail
      refine ⟨trivial, rfl, (CallsIn.inRound _ (callsIn_wide.2 (lfail_ask sb s km ans u kn _ _ q W2 hS.sbb hS.sk hrc (by omega) (i64_of HCS.out (by omega)) (hS.tab ht) HQ.out))).mono ?_⟩
      rintro e W3 ⟨A3, c3, rfl, hr3, hf3, hn3⟩
      gi_wp2
      exact ⟨rfl, hS.clear hn hf3 (by simp), hS.quit L hf3 hr3 hn3 hR⟩
     ·have hR : Hid (full = (if v = 2 then f1 q else scanT f1 d1 (qs.drop (k + 1))).go (askS ans) (u', kn')) := by show _ = _; rw [hfu.out, scan_some hqk.out hq]
      have HQ := Lib.hid hq
      clear hq hfu hcs
      by_cases hv : v = 2
      ·have hb : (v == 2) = true := by simp [hv]
       rw [if_pos hv, HF1.out] at hR
       clear hv
       gi_wp2_with fail
       refine ⟨trivial, rfl, (CallsIn.inRound _ (callsIn_wide.2 (lfail_got sb s km ans u kn _ _ q W2 hS.sbb hS.sk hrc (by omega) (i64_of HCS.out (by omega)) (hS.tab ht) HQ.out))).mono ?_⟩
       rw [hb]
       rintro e W3 ⟨rfl, hf3, hs3⟩
       have hS3 := hS.asked L hf3 hs3
       have hrc3 := hrc.fr hf3 (fun _ a ha => by injection ha with ha; subst ha; simp; omega)
       gi_wp2_with fail
       refine ⟨trivial, rfl, (CallsIn.inRound _ (callsIn_wide.2 (fresh_any _ _ q W3 hrc3 (by omega)))).mono ?_⟩
       simp only [RetOwn, List.length_map]
       rintro e W4 ⟨A4, c4, rfl, hf4, ho4⟩
       have hS4 := hS3.fr_ L hf4
       have hgl := hS3.gb.lt
       have hsz3 := hS3.fr.size
       have hat4 : 0 < q.length → ∀ a, A4 = some a → B ≤ a.block ∧ a.block ≠ w.heap.size + 1 + 1 := fun _ a ha => by
        have := Nw.own ho4 a ha
        omega
       have hS5 := hS4.putC L (own_rd ho4 rfl rfl) hat4
       have hS6 := hS4.put (g2 := 2) L (own_rd ho4 rfl rfl) hat4
       have e5 := hS4.cb.cell 0 rfl
       have f5 := hS4.cb.frozen 0
       have e6 := hS5.gb.cell 0 rfl
       have f6 := hS5.gb.frozen 0
       gi_wp2_with fail
       refine ⟨hS.clear (S := [s, km, w.heap.size, w.heap.size + 1 + 1]) hn ((((hf3.trans0 hf4).mono (by simp)).setCell (.inl (by simp)) _).setCell (.inl (by simp)) _) (fun x hx => hx), rfl, A4, c4, q, 2, u', kn', hS6, ⟨Nat.le_refl _, by omega⟩, hcl2, by omega, HCS, hR⟩
      ·have hb : (v == 2) = false := by simpa using hv
       rw [if_neg hv] at hR
       clear hv
       gi_wp2_with fail
       refine ⟨trivial, rfl, (CallsIn.inRound _ (callsIn_wide.2 (lfail_got sb s km ans u kn _ _ q W2 hS.sbb hS.sk hrc (by omega) (i64_of HCS.out (by omega)) (hS.tab ht) HQ.out))).mono ?_⟩
       rw [hb]
       rintro e W3 ⟨rfl, hf3, hs3⟩
       gi_wp2_with fail
       exact ⟨hS.clear hn hf3 (by simp), hk, u', kn', hS.asked L hf3 hs3, hB1.fr hf3 (by simp; omega), hB2.fr hf3 (by simp; omega), hR⟩
    case done =>
     rintro W2 ⟨_, u, kn, hS2, hB1, hB2, hfu2⟩ hmk
     rw [scan_done (by rw [HLC.out]; exact Nat.le_refl _)] at hfu2
     have hS3 := hS2.mark (by have := HZ1.out; omega) hmk
     have hnd3 : (W1.heap.size :: ms).Nodup := List.nodup_cons.2 ⟨fun h => by have := hmsb _ h; have := HZ1.out; omega, hnd⟩
     obtain ⟨ms2, hms2⟩ : ∃ m, m = W1.heap.size :: ms := ⟨_, rfl⟩
     rw [← hms2] at hS3 hnd3
     show wpR _ _ _ _ _
     rw [show markOf W1.heap.size :: ms.map markOf = ms2.map markOf by rw [hms2]; rfl]
     clear hms2
     dsimp only
     have e0 := hS3.cb.cell 0 rfl
     have e2 := hS3.gb.cell 0 rfl
     refine wpR_seq (wpR_seq (wpR_of_wp ?_))
     go_wp2_with fail
     refine (cuts_any (some ⟨b0, o0, none⟩) cc c.length g W2 (by omega)).mono ?_
     rintro e w1 ⟨rfl, rfl⟩
     go_wp2
     refine wpR_block ?_
     have hgv := cuts_gives W2.heap.size b0 o0 c.length cc (cutN c.length (g : Int)) (some ⟨b0, o0, none⟩) (fun _ => rfl) (by omega) (cutN_le c.length (g : Int)) hS3.rd.le hcb
     rw [HNN.out] at hgv
     rw [HNN.out]
     have hzW2 := hS3.fr.size
     obtain ⟨W4, hW4⟩ : ∃ W1, W1 = (W2.alloc (.cells #[.slice (some ⟨b0, o0, none⟩) c.length cc] 53)).alloc (.cells #[.int .i64 N] 3) := ⟨_, rfl⟩
     have hz4 : W4.heap.size = W2.heap.size + 1 + 1 := by rw [hW4]; simp
     have HZ4 := Lib.hid hz4
     have hfW4 : Fr [] W2 W4 := by rw [hW4]; exact frx
     obtain ⟨f2, hf2⟩ : ∃ f, (fun x => minT s' x (max (g - 1) 2)) = f := ⟨_, rfl⟩
     have HF2 : Hid (∀ x, f2 x = minT s' x (max (g - 1) 2)) := by rw [← hf2]; exact fun _ => rfl
     have hfu2 : Hid (full = (scanT f2 d2 qs2).go (askS ans) (u, kn)) := by show _ = _; rw [hfu2.out, ← HD1.out, hf2]
     clear hf2
     have hI4 : MinI w0 w s km sb B ans full ms2 (some ⟨b0, o0, none⟩) cc c g W2.heap.size N f2 d2 qs2 0 W4 :=
      ⟨Nat.zero_le _, u, kn, hS3.fr_ L hfW4, by rw [hW4]; exact (Blk.new W2 _ _ _ rfl).alloc _, by rw [hW4]; exact Blk.new _ _ _ _ (by simp), hfu2⟩
     rw [← hW4]
     clear hW4 hz4
     have hmsb2 := hS3.below
     clear hfu2 hB1 hB2
     refine wpR_rangeFunc 24 rfl rfl hent hgv (MinI w0 w s km sb B ans full ms2 (some ⟨b0, o0, none⟩) cc c g W2.heap.size N f2 d2 qs2)
      (fun code W => code = .exit 1 ∧ MinO w0 w s km sb B n ans full ms2 s' W) (MinQ w s km B full ms2) W4.heap.size rfl
      (fun k W W' h hn hf => h.nc L (by have := HZ4.out; omega) (fun D' hD' => by have := hmsb2 D' hD'; have := HZ4.out; omega) hn hf) (fun code W W' h hn hf => ⟨h.1, h.2.nc L (by have := HZ4.out; omega) (fun D' hD' => by have := hmsb2 D' hD'; have := HZ4.out; omega) hn hf⟩)
      (fun k W h => by obtain ⟨_, _, _, _, h3, h4, _⟩ := h; exact ⟨h3.cell 0 rfl, h4.cell 0 rfl⟩) (fun W hf _ => hI4.fr_ L hf)
      (fun k => { tmps := #[f 0, f 1, .pointer (some ⟨w.heap.size, 0, none⟩), .pointer (some ⟨w.heap.size + 1, 0, none⟩), f 4, .pointer (some ⟨w.heap.size + 1 + 1, 0, none⟩), f 6, chunkV b0 o0 c.length cc N k, f 8, .slice (some ⟨b0, o0, none⟩) c.length cc, .int .i64 c.length, .bool true, .slice (some ⟨b0, o0, none⟩) c.length cc, .int .i64 g, .func (.func 88) #[] #[.pointer (some ⟨W.heap.size + 1, 0, none⟩), .pointer (some ⟨W.heap.size, 0, none⟩)], f 15, f 16, f 17, f 18, f 19, f 20, .slice (some ⟨b0, o0, none⟩) c.length cc, .int .i64 g, .func (.func 88) #[] #[.pointer (some ⟨W2.heap.size + 1, 0, none⟩), .pointer (some ⟨W2.heap.size, 0, none⟩)], chunkV b0 o0 c.length cc N k, f 25, f 26, f 27, f 28, f 29, f 30, f 31, f 32, f 33, f 34, f 35, f 36, f 37, f 38, f 39, f 40, f 41, f 42, f 43, f 44, f 45, f 46, f 47, f 48, f 49, f 50, f 51], defers := [] })
      ?assign2 ?body2 ?done2 ?stop2 ?pan2
     case assign2 =>
      intro l k W K hK
      gi_wp2
      exact hK
     case body2 =>
      rintro k W5 hk ⟨_, u, kn, hS, hB1, hB2, hfu⟩ hn
      have hch := Lib.hid (chunkV_eq (b := b0) (o := o0) (c := cc) (N := N) (xs := c) hk)
      have hrc := (hS.rd.chunk hk hNm : Rd W5 (.int .i64) (some ⟨b0, o0 + k * c.length / N, none⟩) (cc - k * c.length / N) (chunkOf c N k))
      have hqk := Lib.hid (HQR.out k hk)
      obtain ⟨hcs, hcm, hcl2⟩ := HMR.out k hk
      rw [hch.out]
      generalize chunkOf c N k = x at *
      have HCS := Lib.hid hcs
      clear hcs
      have e0 := hS.cb.cell 0 rfl
      gi_wp2_with fail
      refine ⟨trivial, rfl, (CallsIn.inRound _ (callsIn_wide.2 (without_any _ _ cc _ c x W5 hS.rd hrc (by omega)))).mono ?_⟩
      simp only [RetOwn, List.length_map]
      rintro e W6 ⟨A6, c6, rfl, hf6, ho6⟩
      have hS6 := hS.fr_ L hf6
      have hr6 : Rd W6 (.int .i64) A6 c6 (minus c x) := own_rd ho6 rfl rfl
      have hsz5 := hS.fr.size
      have hgl := hS.gb.lt
      have hat6 : 0 < (minus c x).length → ∀ a, A6 = some a → B ≤ a.block ∧ a.block ≠ w.heap.size + 1 + 1 := fun _ a ha => by
       have := Nw.own ho6 a ha
       omega
      clear ho6 hrc
      generalize minus c x = q at *
      have e1 := hS6.fb.cell 0 rfl
      rcases hq : askV ans u kn q with _ | ⟨v, u', kn'⟩
      ·have hR : Hid (full = .inl q) := by show _ = _; rw [hfu.out, scan_none hqk.out hq]
       have HQ := Lib.hid hq
       clear hq hfu
       gi_wp2_with fail
       refine ⟨trivial, rfl, (CallsIn.inRound _ (callsIn_wide.2 (lfail_ask sb s km ans u kn _ _ q W6 hS6.sbb hS6.sk hr6 (by omega) (i64_of HCS.out (by omega)) (hS6.tab ht) HQ.out))).mono ?_⟩
       rintro e W7 ⟨A7, c7, rfl, hr7, hf7, hn7⟩
       gi_wp2
       exact ⟨rfl, hS.clear hn (hf6.trans hf7) (by simp), hS6.quit L hf7 hr7 hn7 hR⟩
      ·have hR : Hid (full = (if v = 2 then f2 q else scanT f2 d2 (qs2.drop (k + 1))).go (askS ans) (u', kn')) := by show _ = _; rw [hfu.out, scan_some hqk.out hq]
       have HQ := Lib.hid hq
       clear hq hfu
       by_cases hv : v = 2
       ·have hb : (v == 2) = true := by simp [hv]
        rw [if_pos hv, HF2.out] at hR
        clear hv
        gi_wp2_with fail
        refine ⟨trivial, rfl, (CallsIn.inRound _ (callsIn_wide.2 (lfail_got sb s km ans u kn _ _ q W6 hS6.sbb hS6.sk hr6 (by omega) (i64_of HCS.out (by omega)) (hS6.tab ht) HQ.out))).mono ?_⟩
        rw [hb]
        rintro e W7 ⟨rfl, hf7, hs7⟩
        have hS7 := hS6.asked L hf7 hs7
        have hr7 := hr6.fr hf7 (fun h0 a ha => by have := (hat6 h0 a ha).1; simp; omega)
        have hS8 := hS7.putC L hr7 hat6
        have e5 := hS7.cb.cell 0 rfl
        have f5 := hS7.cb.frozen 0
        have e6 := hS8.gb.cell 0 rfl
        have f6 := hS8.gb.frozen 0
        have hcl7 : Clear W4.heap.size W5 ((W7.setCell ⟨w.heap.size, 0, none⟩ (.slice A6 q.length c6)).setCell ⟨w.heap.size + 1 + 1, 0, none⟩ (.int .i64 (max (g - 1) 2 : Nat))) :=
         hS.clear (S := [s, km, w.heap.size, w.heap.size + 1 + 1]) hn (((((hf6.mono (by simp)).trans hf7).mono (by simp)).setCell (.inl (by simp)) _).setCell (.inl (by simp)) _) (fun x hx => hx)
        have hO9 : MinO w0 w s km sb B n ans full ms2 s' ((W7.setCell ⟨w.heap.size, 0, none⟩ (.slice A6 q.length c6)).setCell ⟨w.heap.size + 1 + 1, 0, none⟩ (.int .i64 (max (g - 1) 2 : Nat))) :=
         ⟨A6, c6, q, max (g - 1) 2, u', kn', hS7.put (g2 := max (g - 1) 2) L hr7 hat6, by omega, hcl2, by omega, HCS, hR⟩
        have HO9 := Lib.hid hO9
        have HCL := Lib.hid hcl7
        clear hO9 hcl7 hcm
        by_cases hg3 : g = 2
        ·subst hg3
         gi_wp2_with fail
         exact ⟨HCL.out, rfl, HO9.out⟩
        ·obtain ⟨m, rfl⟩ : ∃ m : Nat, g = m + 1 := ⟨g - 1, by omega⟩
         have hm2 : max (m + 1 - 1) 2 = m := by omega
         rw [hm2] at HCL HO9
         have hw1 : IntKind.i64.wrap ((m : Int) + 1 - 1) = (m : Int) := by rw [Int.add_sub_cancel]; exact IntWalk.i64_in _ (by omega)
         have hw2 : IntKind.i64.wrap (m : Int) = (m : Int) := IntWalk.i64_in _ (by omega)
         have hw3 : ¬ (m : Int) < 2 := by omega
         have hw4 : max (m : Int) 2 = (m : Int) := by omega
         gi_wp2_with fail
         exact ⟨HCL.out, rfl, HO9.out⟩
       ·have hb : (v == 2) = false := by simpa using hv
        rw [if_neg hv] at hR
        clear hv
        gi_wp2_with fail
        refine ⟨trivial, rfl, (CallsIn.inRound _ (callsIn_wide.2 (lfail_got sb s km ans u kn _ _ q W6 hS6.sbb hS6.sk hr6 (by omega) (i64_of HCS.out (by omega)) (hS6.tab ht) HQ.out))).mono ?_⟩
        rw [hb]
        rintro e W7 ⟨rfl, hf7, hs7⟩
        gi_wp2_with fail
        have hf57 : Fr [s, km] W5 W7 := (hf6.mono (by simp)).trans hf7
        exact ⟨hS.clear hn hf57 (by simp), hk, u', kn', hS6.asked L hf7 hs7, hB1.fr hf57 (by simp; omega), hB2.fr hf57 (by simp; omega), hR⟩
     case done2 =>
      rintro W3 ⟨_, u, kn, hS5, hB1, hB2, hfu2⟩ hmk
      rw [scan_done (by rw [HLR.out]; exact Nat.le_refl _), ← HD2.out] at hfu2
      have hS6 := hS5.mark (by have := HZ4.out; omega) hmk
      have hnd4 : (W4.heap.size :: ms2).Nodup := List.nodup_cons.2 ⟨fun h => by have := hmsb2 _ h; have := HZ4.out; omega, hnd3⟩
      obtain ⟨ms3, hms3⟩ : ∃ m, m = W4.heap.size :: ms2 := ⟨_, rfl⟩
      rw [← hms3] at hS6 hnd4
      show wpR _ _ _ _ _
      rw [show markOf W4.heap.size :: ms2.map markOf = ms3.map markOf by rw [hms3]; rfl]
      clear hms3
      dsimp only
      have e0 := hS6.cb.cell 0 rfl
      have e2 := hS6.gb.cell 0 rfl
      have f2 := hS6.gb.frozen 0
      refine wpR_of_wp ?_
      by_cases hge : c.length ≤ g
      ·rw [if_pos hge] at hfu2
       go_wp2_with fail
       obtain ⟨f', hf'⟩ := minAct_of (w := w) (ms := ms3)
       exact ⟨f', ms3, _, cc, c, g, u, kn, hf', hnd4, hS6, hcl, hfu2⟩
      ·rw [if_neg hge] at hfu2
       have hmf := min_finer hg (Nat.lt_of_not_le hge)
       by_cases hge2 : 2 * g ≤ c.length
       ·have hmn : min (2 * g) c.length = 2 * g := by omega
        rw [hmn] at hmf hfu2
        have hw1 : IntKind.i64.wrap (2 * (g : Int)) = ((2 * g : Nat) : Int) := by rw [IntWalk.i64_in _ (by omega)]; omega
        have hw3 : ¬ (c.length : Int) < ((2 * g : Nat) : Int) := by omega
        have hw4 : min ((2 * g : Nat) : Int) (c.length : Int) = ((2 * g : Nat) : Int) := by omega
        have hO := (⟨_, cc, c, 2 * g, u, kn, hS6.putG L, ⟨by omega, by omega⟩, hcl, by omega, hset, hfu2⟩ : MinO w0 w s km sb B n ans full ms3 s' _)
        generalize 2 * g = g2 at *
        have HO := Lib.hid hO
        clear hO hge2 hmf hmn
        go_wp2_with fail
        obtain ⟨f', hf'⟩ := minAct_of (w := w) (ms := ms3)
        exact ⟨f', ms3, hf', hnd4, HO.out⟩
       ·have hmn : min (2 * g) c.length = c.length := by omega
        rw [hmn] at hmf hfu2
        have hw1 : IntKind.i64.wrap (2 * (g : Int)) = ((2 * g : Nat) : Int) := by rw [IntWalk.i64_in _ (by omega)]; omega
        have hw3 : (c.length : Int) < ((2 * g : Nat) : Int) := by omega
        have hw4 : min ((2 * g : Nat) : Int) (c.length : Int) = (c.length : Int) := by omega
        have hw5 : ¬ ((2 * g : Nat) : Int) < (c.length : Int) := by omega
        have hO := (⟨_, cc, c, c.length, u, kn, hS6.putG L, ⟨by omega, by omega⟩, hcl, by omega, hset, hfu2⟩ : MinO w0 w s km sb B n ans full ms3 s' _)
        generalize 2 * g = g2 at *
        have HO := Lib.hid hO
        clear hO hge2 hmf hmn
        go_wp2_with fail
        obtain ⟨f', hf'⟩ := minAct_of (w := w) (ms := ms3)
        exact ⟨f', ms3, hf', hnd4, HO.out⟩
     case stop2 =>
      rintro code W3 ⟨rfl, hO⟩ hmk
      refine wpR_of_wp ?_
      go_wp2
      obtain ⟨f', hf'⟩ := minAct_of (w := w) (ms := W4.heap.size :: ms2)
      exact ⟨f', _, hf', List.nodup_cons.2 ⟨fun h => by have := hmsb2 _ h; have := HZ4.out; omega, hnd3⟩, hO.mark (by have := HZ4.out; omega) hmk⟩
     case pan2 =>
      rintro ch W3 hQ hmk
      exact ⟨W4.heap.size :: ms2, rfl, List.nodup_cons.2 ⟨fun h => by have := hmsb2 _ h; have := HZ4.out; omega, hnd3⟩, hQ.mark (by have := HZ4.out; omega) hmk⟩
    case stop =>
     rintro code W2 ⟨rfl, hO⟩ hmk
     refine wpR_of_wp ?_
     go_wp2
     obtain ⟨f', hf'⟩ := minAct_of (w := w) (ms := W1.heap.size :: ms)
     exact ⟨f', _, hf', List.nodup_cons.2 ⟨fun h => by have := hmsb _ h; have := HZ1.out; omega, hnd⟩, hO.mark (by have := HZ1.out; omega) hmk⟩
    case pan =>
     rintro ch W2 hQ hmk
     exact ⟨W1.heap.size :: ms, rfl, List.nodup_cons.2 ⟨fun h => by have := hmsb _ h; have := HZ1.out; omega, hnd⟩, hQ.mark (by have := HZ1.out; omega) hmk⟩
   ·have hd : decide ((c.length : Int) ≥ 2) = false := by simp; omega
    rw [minT_le1 h2] at hfu
    unfold MinAct
    refine wpR_seq (wpR_of_wp ?_)
    go_wp2_with fail
    obtain ⟨f', hf'⟩ := minAct_of (w := w) (ms := ms)
    exact ⟨f', ms, A, cc, c, g, u, kn, hf', hnd, hS, hcl, hfu⟩
 case rest =>
  rintro e a W h
  cases e <;> first | exact h.elim | skip
  case panic ch =>
   obtain ⟨ms, hd, hnd, hQ⟩ := h
   show LeavesInM _ _ _ _ _ _ _ _ _
   rw [hd]
   exact leaves_marks _ (by simp) ms W hnd (fun D hD => (hQ.marks D hD).2) fun W' hf' => hQ.leave hf'
  case normal =>
   obtain ⟨f, ms, A, cc, c, g, u, kn, rfl, hnd, hS, hcl, hfu⟩ := h
   refine wpR_of_wp ?_
   have e0 := hS.cb.cell 0 rfl
   have f0 := hS.cb.frozen 0
   have e1 := hS.fb.cell 0 rfl
   have hmk : ∀ D ∈ ms, W.heap[D]? = some (.deferred (some [])) := fun D hD => (hS.marks D hD).2
   unfold MinAct
   by_cases h1 : c.length = 1
   ·have hd : decide ((c.length : Int) = 1) = true := by simp [h1]
    have hi1 : ((c.length : Int) == 1) = true := by simp [h1]
    unfold minFin at hfu
    rw [if_pos h1] at hfu
    rcases hq : askV ans u kn [] with _ | ⟨v, u', kn'⟩
    ·rw [Tr.go_none (askS_none hq)] at hfu
     have HQ := Lib.hid hq
     clear hq
     go_wp2_with fail
     refine (lfail_ask sb s km ans u kn none 0 [] W hS.sbb hS.sk (Rd.nil_ _ _) (by simp) (fun x hx => by simp at hx) (hS.tab ht) HQ.out).mono ?_
     rintro e W2 ⟨A2, c2, rfl, hr2, hf2, hn2⟩
     have hQ := hS.quit L hf2 hr2 hn2 hfu
     go_wp2
     exact leaves_marks _ (by simp) ms W2 hnd (fun D hD => (hQ.marks D hD).2) fun W' hf' => hQ.leave hf'
    ·rw [Tr.go_some (askS_some hq)] at hfu
     have HQ := Lib.hid hq
     clear hq
     by_cases hv : v = 2
     ·have hb : (v == 2) = true := by simp [hv]
      have hfu2 : Hid (full = .inr ([], (u', kn'))) := by show _ = _; rw [hfu.out, if_pos hv]; rfl
      clear hfu hv
      go_wp2_with fail
      refine (lfail_got sb s km ans u kn none 0 [] W hS.sbb hS.sk (Rd.nil_ _ _) (by simp) (fun x hx => by simp at hx) (hS.tab ht) HQ.out).mono ?_
      rw [hb]
      rintro e W2 ⟨rfl, hf2, hs2⟩
      have hS2 := hS.asked L hf2 hs2
      have e0 := hS2.cb.cell 0 rfl
      have f0 := hS2.cb.frozen 0
      go_wp2_with fail
      have hS3 := hS2.putC L (Rd.nil_ W2 (.int .i64)) (by simp)
      refine leaves_marks .returning (by simp) ms _ hnd (fun D hD => (hS3.marks D hD).2) fun W' hf' => ?_
      refine ⟨_, results_tmp rfl _ _ _, ?_⟩
      exact hS3.leave L (Rd.nil_ _ _) (by simp) hfu2.out hf'
     ·have hb : (v == 2) = false := by simpa using hv
      have hfu2 : Hid (full = .inr (c, (u', kn'))) := by show _ = _; rw [hfu.out, if_neg hv]; rfl
      clear hfu hv
      go_wp2_with fail
      refine (lfail_got sb s km ans u kn none 0 [] W hS.sbb hS.sk (Rd.nil_ _ _) (by simp) (fun x hx => by simp at hx) (hS.tab ht) HQ.out).mono ?_
      rw [hb]
      rintro e W2 ⟨rfl, hf2, hs2⟩
      have hS2 := hS.asked L hf2 hs2
      have e0 := hS2.cb.cell 0 rfl
      go_wp2_with fail
      refine leaves_marks .returning (by simp) ms W2 hnd (fun D hD => (hS2.marks D hD).2) fun W' hf' => ?_
      refine ⟨_, results_tmp rfl _ _ _, ?_⟩
      have := hS2.leave L hS2.rd (fun h0 a ha => (hS2.at_ h0 a ha).1) hfu2.out hf'
      rw [h1] at this
      exact this
   ·have hi1 : ((c.length : Int) == 1) = false := by rw [beq_eq_false_iff_ne]; omega
    unfold minFin at hfu
    rw [if_neg h1] at hfu
    go_wp2_with fail
    refine leaves_marks .returning (by simp) ms W hnd hmk fun W' hf' => ?_
    refine ⟨_, results_tmp rfl _ _ _, ?_⟩
    exact hS.leave L hS.rd (fun h0 a ha => (hS.at_ h0 a ha).1) hfu.out hf'
end

/- minimal, whatever its closure asks: what holds between its steps. -/
section
open Go Go.RowKit
structure MinC (σ : Type) where
 stp : σ → List Int → Option (Int × σ)
 I : World → σ → Prop
 Z : List Nat
 B : Nat
 PQ : List Int → List PanicEntry → World → Prop
 n : Nat
structure MinC.Ok {σ : Type} (M : MinC σ) (w : World) (F : FuncId) (caps : Array Value) : Prop where
 zB : ∀ x ∈ M.Z, x < M.B
 Bw : M.B ≤ w.heap.size
 nm : M.n ≤ 256
 ent : ∀ (args : Array Value) (w : World), (callFunc F args).run Tryz.prog w = .ok (.enter F args) w
 fr : ∀ (W W' : World) (st : σ) (S : List Nat), M.I W st → Fr S W W' → (∀ x ∈ S, w.heap.size ≤ x) → M.I W' st
 pq : ∀ (W W' : World) (q : List Int) (ch : List PanicEntry) (ms : List Nat), M.PQ q ch W → Fr ms W W' → (∀ D ∈ ms, w.heap.size < D ∧ W.heap[D]? = some (.deferred (some []))) → M.PQ q ch W'
 got : ∀ (W : World) (st : σ) (q : List Int) (A : Option Addr) (c : Nat) (v : Int) (st' : σ), M.I W st → Fr M.Z w W → Rd W (.int .i64) A c q → isSet M.n q = true → q.length ≤ 256 → M.stp st q = some (v, st') →
  Calls Tryz.prog F (#[.slice A q.length c] ++ caps) W fun e W' => e = .returned (.bool (v == 2)) ∧ Fr M.Z W W' ∧ M.I W' st'
 ask : ∀ (W : World) (st : σ) (q : List Int) (A : Option Addr) (c : Nat), M.I W st → Fr M.Z w W → Rd W (.int .i64) A c q → isSet M.n q = true → q.length ≤ 256 → M.stp st q = none →
  Calls Tryz.prog F (#[.slice A q.length c] ++ caps) W fun e W' => ∃ ch, e = .panicked ch ∧ Fr [] W W' ∧ M.PQ q ch W'
structure GS {σ : Type} (M : MinC σ) (w : World) (F : FuncId) (caps : Array Value) (ms : List Nat) (A : Option Addr) (cc : Nat) (c : List Int) (g : Nat) (st : σ) (W : World) : Prop where
 fr : Fr M.Z w W
 inv : M.I W st
 cb : Blk W w.heap.size 53 #[.slice A c.length cc]
 rd : Rd W (.int .i64) A cc c
 at_ : 0 < c.length → ∀ a, A = some a → M.B ≤ a.block ∧ a.block ≠ w.heap.size + 1 + 1
 fb : Blk W (w.heap.size + 1) 107 #[.func (.func F) #[] caps]
 gb : Blk W (w.heap.size + 1 + 1) 3 #[.int .i64 g]
 marks : ∀ D ∈ ms, w.heap.size < D ∧ W.heap[D]? = some (.deferred (some []))
section
variable {σ : Type} {M : MinC σ} {F : FuncId} {caps : Array Value} {w W W' : World} {cc g : Nat} {st st' : σ} {ms : List Nat} {A : Option Addr} {c : List Int}
theorem GS.same {S : List Nat} (L : M.Ok w F caps) (h : GS M w F caps ms A cc c g st W) (hf : Fr S W W') (hw0 : ∀ x ∈ S, w.heap.size ≤ x) (hc : w.heap.size ∉ S) (hfb : w.heap.size + 1 ∉ S) (hg : w.heap.size + 1 + 1 ∉ S)
  (hA : 0 < c.length → ∀ a, A = some a → a.block ∉ S) (hm : ∀ D ∈ ms, D ∉ S) : GS M w F caps ms A cc c g st W' :=
 ⟨h.fr.trans2 hf fun x hx => .inr (hw0 x hx), L.fr _ _ _ _ h.inv hf hw0, h.cb.fr hf hc, h.rd.fr hf hA, h.at_, h.fb.fr hf hfb, h.gb.fr hf hg, fun D hD => ⟨(h.marks D hD).1, hf.heap (h.marks D hD).2 (hm D hD)⟩⟩
theorem GS.fr_ (L : M.Ok w F caps) (h : GS M w F caps ms A cc c g st W) (hf : Fr [] W W') : GS M w F caps ms A cc c g st W' :=
 h.same L hf (by simp) (by simp) (by simp) (by simp) (by simp) (by simp)
theorem GS.nc {D : Nat} (L : M.Ok w F caps) (hD : w.heap.size ≤ D) (hms : ∀ D' ∈ ms, D' < D) (h : GS M w F caps ms A cc c g st W) (hn : Nc W D) (hf : Fr [D, D + 1] W W') : GS M w F caps ms A cc c g st W' :=
 h.same L hf (by simp; omega) (hn.blk h.cb) (hn.blk h.fb) (hn.blk h.gb) (hn.rd h.rd) (fun D' hD' => by have := hms D' hD'; simp; omega)
theorem GS.asked (L : M.Ok w F caps) (h : GS M w F caps ms A cc c g st W) (hf : Fr M.Z W W') (hsk : M.I W' st') : GS M w F caps ms A cc c g st' W' := by
 have hz : ∀ x, w.heap.size ≤ x → x ∉ M.Z := fun x hx hm => by have := L.zB x hm; have := L.Bw; omega
 refine ⟨h.fr.trans hf, hsk, h.cb.fr hf (hz _ (Nat.le_refl _)), h.rd.fr hf ?_, h.at_, h.fb.fr hf (hz _ (by omega)), h.gb.fr hf (hz _ (by omega)), fun D hD => ⟨(h.marks D hD).1, hf.heap (h.marks D hD).2 (hz _ (Nat.le_of_lt (h.marks D hD).1))⟩⟩
 intro h0 a ha hm
 have := (h.at_ h0 a ha).1
 have := L.zB _ hm
 omega
theorem GS.put {A2 : Option Addr} {c2 g2 : Nat} {x : List Int} (L : M.Ok w F caps) (h : GS M w F caps ms A cc c g st W) (hr : Rd W (.int .i64) A2 c2 x) (ha : 0 < x.length → ∀ a, A2 = some a → M.B ≤ a.block ∧ a.block ≠ w.heap.size + 1 + 1) :
  GS M w F caps ms A2 c2 x g2 st ((W.setCell ⟨w.heap.size, 0, none⟩ (.slice A2 x.length c2)).setCell ⟨w.heap.size + 1 + 1, 0, none⟩ (.int .i64 g2)) := by
 have hz := h.fr.size
 have hf : Fr [w.heap.size, w.heap.size + 1 + 1] W ((W.setCell ⟨w.heap.size, 0, none⟩ (.slice A2 x.length c2)).setCell ⟨w.heap.size + 1 + 1, 0, none⟩ (.int .i64 g2)) :=
  ((Fr.refl _ W).setCell (.inl (by simp)) _).setCell (.inl (by simp)) _
 have hgb2 : Blk (W.setCell ⟨w.heap.size, 0, none⟩ (.slice A2 x.length c2)) (w.heap.size + 1 + 1) 3 #[.int .i64 g] := h.gb.far (p := ⟨w.heap.size, 0, none⟩) (by show w.heap.size + 1 + 1 ≠ w.heap.size; omega) _
 have hcb2 : Blk (W.setCell ⟨w.heap.size, 0, none⟩ (.slice A2 x.length c2)) w.heap.size 53 #[.slice A2 x.length c2] := by simpa using h.cb.set_ 0 _
 refine ⟨h.fr.trans2 hf (by simp; omega), L.fr _ _ _ _ h.inv hf (by simp; omega), hcb2.far (p := ⟨w.heap.size + 1 + 1, 0, none⟩) (by show w.heap.size ≠ w.heap.size + 1 + 1; omega) _, hr.fr hf ?_, ha, h.fb.fr hf (by simp),
  by simpa using hgb2.set_ 0 _, fun D hD => ⟨(h.marks D hD).1, hf.heap (h.marks D hD).2 ?_⟩⟩
 ·intro h0 a hA hm
  have h1 := (ha h0 a hA).2
  have h2 := hr.apart h.cb notI64s h0 a hA
  simp at hm
  omega
 ·intro hm
  simp at hm
  have h1 := (h.marks D hD).2
  rcases hm with rfl | rfl
  ·rw [show W.heap[w.heap.size]? = _ from h.cb] at h1; cases h1
  ·rw [show W.heap[w.heap.size + 1 + 1]? = _ from h.gb] at h1; cases h1
theorem GS.putC {A2 : Option Addr} {c2 : Nat} {x : List Int} (L : M.Ok w F caps) (h : GS M w F caps ms A cc c g st W) (hr : Rd W (.int .i64) A2 c2 x) (ha : 0 < x.length → ∀ a, A2 = some a → M.B ≤ a.block ∧ a.block ≠ w.heap.size + 1 + 1) :
  GS M w F caps ms A2 c2 x g st (W.setCell ⟨w.heap.size, 0, none⟩ (.slice A2 x.length c2)) := by
 have hz := h.fr.size
 have hf : Fr [w.heap.size] W (W.setCell ⟨w.heap.size, 0, none⟩ (.slice A2 x.length c2)) := (Fr.refl _ W).setCell (.inl (by simp)) _
 have hcb2 : Blk (W.setCell ⟨w.heap.size, 0, none⟩ (.slice A2 x.length c2)) w.heap.size 53 #[.slice A2 x.length c2] := by simpa using h.cb.set_ 0 _
 refine ⟨h.fr.trans2 hf (by simp), L.fr _ _ _ _ h.inv hf (by simp), hcb2, hr.fr hf ?_, ha, h.fb.fr hf (by simp),
  h.gb.fr hf (by simp only [List.mem_singleton]; omega), fun D hD => ⟨(h.marks D hD).1, hf.heap (h.marks D hD).2 ?_⟩⟩
 ·intro h0 a hA hm
  have h2 := hr.apart h.cb notI64s h0 a hA
  simp at hm
  omega
 ·intro hm
  have := (h.marks D hD).1
  simp at hm
  omega
theorem GS.putG {g2 : Nat} (L : M.Ok w F caps) (h : GS M w F caps ms A cc c g st W) : GS M w F caps ms A cc c g2 st (W.setCell ⟨w.heap.size + 1 + 1, 0, none⟩ (.int .i64 g2)) := by
 have hz := h.fr.size
 have hf : Fr [w.heap.size + 1 + 1] W (W.setCell ⟨w.heap.size + 1 + 1, 0, none⟩ (.int .i64 g2)) := (Fr.refl _ W).setCell (.inl (by simp)) _
 refine ⟨h.fr.trans2 hf (by simp; omega), L.fr _ _ _ _ h.inv hf (by simp; omega), h.cb.fr hf (by simp only [List.mem_singleton]; omega), h.rd.fr hf ?_, h.at_, h.fb.fr hf (by simp only [List.mem_singleton]; omega),
  by simpa using h.gb.set_ 0 _, fun D hD => ⟨(h.marks D hD).1, hf.heap (h.marks D hD).2 ?_⟩⟩
 ·intro h0 a hA hm
  exact (h.at_ h0 a hA).2 (by simpa using hm)
 ·intro hm
  obtain rfl : D = w.heap.size + 1 + 1 := by simpa using hm
  have h1 := (h.marks _ hD).2
  rw [show W.heap[w.heap.size + 1 + 1]? = _ from h.gb] at h1; cases h1
end
section
variable {α σ : Type} {stp : σ → List Int → Option (Int × σ)} {f : List Int → Tr (List Int) Int α} {d : Tr (List Int) Int α} {qs : List (List Int)} {k : Nat} {q : List Int} {st st' : σ} {v : Int}
theorem gscan_none (h : qs[k]? = some q) (ha : stp st q = none) : (scanT f d (qs.drop k)).go stp st = .inl q := by
 rw [scan_at h]; exact Tr.go_none ha
theorem gscan_some (h : qs[k]? = some q) (ha : stp st q = some (v, st')) : (scanT f d (qs.drop k)).go stp st = (if v = 2 then f q else scanT f d (qs.drop (k + 1))).go stp st' := by
 rw [scan_at h]; exact Tr.go_some ha
end
end

/- minimal, whatever its closure asks: the walk. -/
section
open Go Go.RowKit
attribute [local go_sem] Oper.semAt_some
def GPost {σ : Type} (M : MinC σ) (w : World) (r : List Int ⊕ (List Int × σ)) (e : Ending) (w' : World) : Prop :=
 match r with
 | .inl q => ∃ ch, e = .panicked ch ∧ M.PQ q ch w' ∧ Fr M.Z w w'
 | .inr (c, st) => ∃ A cc, e = .returned (.slice A c.length cc) ∧ Rd w' (.int .i64) A cc c ∧ Fr M.Z w w' ∧ M.I w' st ∧ (0 < c.length → ∀ a, A = some a → M.B ≤ a.block)
section
variable {σ : Type}
structure GQ (M : MinC σ) (w : World) (full : List Int ⊕ (List Int × σ)) (ms : List Nat) (ch : List PanicEntry) (W : World) : Prop where
 ex : ∃ q, Hid (full = .inl q) ∧ M.PQ q ch W
 fr : Fr M.Z w W
 marks : ∀ D ∈ ms, w.heap.size < D ∧ W.heap[D]? = some (.deferred (some []))
def GO (M : MinC σ) (w : World) (F : FuncId) (caps : Array Value) (full : List Int ⊕ (List Int × σ)) (ms : List Nat) (t : Nat) (W : World) : Prop :=
 ∃ A cc c g st, GS M w F caps ms A cc c g st W ∧ (2 ≤ g ∧ g ≤ 256) ∧ c.length ≤ 256 ∧ minM c g < t ∧ Hid (isSet M.n c = true) ∧ Hid (full = (minT t c g).go M.stp st)
def GMid (M : MinC σ) (w : World) (F : FuncId) (caps : Array Value) (full : List Int ⊕ (List Int × σ)) : Exit → Act → World → Prop
 | .normal, a, W => ∃ f ms A cc c g st, a = MinAct w f ms ∧ ms.Nodup ∧ GS M w F caps ms A cc c g st W ∧ c.length ≤ 256 ∧ Hid (full = (minFin c).go M.stp st)
 | .panic ch, a, W => ∃ ms, a.defers = ms.map markOf ∧ ms.Nodup ∧ GQ M w full ms ch W
 | _, _, _ => False
end
section
variable {σ : Type} {M : MinC σ} {F : FuncId} {caps : Array Value} {w W W' : World} {cc g : Nat} {ms : List Nat} {A : Option Addr} {c : List Int} {st st' : σ} {full : List Int ⊕ (List Int × σ)} {ch : List PanicEntry}
theorem GQ.leave (L : M.Ok w F caps) (h : GQ M w full ms ch W) (hf : Fr ms W W') : GPost M w full (.panicked ch) W' := by
 obtain ⟨q, hfu, hp⟩ := h.ex
 rw [hfu.out]
 exact ⟨ch, rfl, L.pq _ _ _ _ _ hp hf h.marks, h.fr.trans2 hf fun x hx => .inr (Nat.le_of_lt (h.marks x hx).1)⟩
theorem GS.leave {A2 : Option Addr} {c2 : Nat} {x : List Int} (L : M.Ok w F caps) (h : GS M w F caps ms A cc c g st W) (hr : Rd W (.int .i64) A2 c2 x) (hB : 0 < x.length → ∀ a, A2 = some a → M.B ≤ a.block) (hfu : full = .inr (x, st)) (hf : Fr ms W W') :
  GPost M w full (.returned (.slice A2 x.length c2)) W' := by
 rw [hfu]
 exact ⟨A2, c2, rfl, hr.fr hf (rd_nd h.marks hr), h.fr.trans2 hf fun x hx => .inr (Nat.le_of_lt (h.marks x hx).1), L.fr _ _ _ _ h.inv hf fun x hx => Nat.le_of_lt (h.marks x hx).1, hB⟩
theorem GS.quit {q : List Int} (L : M.Ok w F caps) (h : GS M w F caps ms A cc c g st W) (hf : Fr [] W W') (hp : M.PQ q ch W') (hfu : Hid (full = .inl q)) : GQ M w full ms ch W' :=
 ⟨⟨q, hfu, hp⟩, h.fr.trans0 hf, fun D hD => ⟨(h.marks D hD).1, hf.heap (h.marks D hD).2 (by simp)⟩⟩
end
def GI {σ : Type} (M : MinC σ) (w : World) (F : FuncId) (caps : Array Value) (full : List Int ⊕ (List Int × σ)) (ms : List Nat) (A : Option Addr) (cc : Nat) (c : List Int) (g D0 N : Nat) (fT : List Int → Tr (List Int) Int (List Int)) (dT : Tr (List Int) Int (List Int)) (qs : List (List Int)) (k : Nat) (W : World) : Prop :=
 k ≤ N ∧ ∃ st, GS M w F caps ms A cc c g st W ∧ Blk W D0 53 #[.slice A c.length cc] ∧ Blk W (D0 + 1) 3 #[.int .i64 N] ∧ Hid (full = (scanT fT dT (qs.drop k)).go M.stp st)
section
variable {σ : Type} {M : MinC σ} {F : FuncId} {caps : Array Value} {w W W' : World} {cc g t D D0 N k : Nat} {ms : List Nat} {A : Option Addr} {c : List Int} {st st' : σ} {full : List Int ⊕ (List Int × σ)} {ch : List PanicEntry} {fT : List Int → Tr (List Int) Int (List Int)} {dT : Tr (List Int) Int (List Int)} {qs : List (List Int)}
theorem GI.fr_ (L : M.Ok w F caps) (h : GI M w F caps full ms A cc c g D0 N fT dT qs k W) (hf : Fr [] W W') : GI M w F caps full ms A cc c g D0 N fT dT qs k W' := by
 obtain ⟨h1, st, h2, h3, h4, h5⟩ := h
 exact ⟨h1, st, h2.fr_ L hf, h3.fr hf (by simp), h4.fr hf (by simp), h5⟩
theorem GI.nc (L : M.Ok w F caps) (hD : w.heap.size ≤ D) (hms : ∀ D' ∈ ms, D' < D) (h : GI M w F caps full ms A cc c g D0 N fT dT qs k W) (hn : Nc W D) (hf : Fr [D, D + 1] W W') : GI M w F caps full ms A cc c g D0 N fT dT qs k W' := by
 obtain ⟨h1, st, h2, h3, h4, h5⟩ := h
 exact ⟨h1, st, h2.nc L hD hms hn hf, h3.fr hf (hn.blk h3), h4.fr hf (hn.blk h4), h5⟩
theorem GO.nc (L : M.Ok w F caps) (hD : w.heap.size ≤ D) (hms : ∀ D' ∈ ms, D' < D) (h : GO M w F caps full ms t W) (hn : Nc W D) (hf : Fr [D, D + 1] W W') : GO M w F caps full ms t W' := by
 obtain ⟨A, cc, c, g, st, h1, h2⟩ := h
 exact ⟨A, cc, c, g, st, h1.nc L hD hms hn hf, h2⟩
theorem GS.mark (h : GS M w F caps ms A cc c g st W) (hD : w.heap.size < D) (hd : W.heap[D]? = some (.deferred (some []))) : GS M w F caps (D :: ms) A cc c g st W :=
 ⟨h.fr, h.inv, h.cb, h.rd, h.at_, h.fb, h.gb, fun D' hD' => by
  rcases List.mem_cons.1 hD' with rfl | h'
  ·exact ⟨hD, hd⟩
  ·exact h.marks D' h'⟩
theorem GO.mark (h : GO M w F caps full ms t W) (hD : w.heap.size < D) (hd : W.heap[D]? = some (.deferred (some []))) : GO M w F caps full (D :: ms) t W := by
 obtain ⟨A, cc, c, g, st, h1, h2⟩ := h
 exact ⟨A, cc, c, g, st, h1.mark hD hd, h2⟩
theorem GQ.mark (h : GQ M w full ms ch W) (hD : w.heap.size < D) (hd : W.heap[D]? = some (.deferred (some []))) : GQ M w full (D :: ms) ch W :=
 ⟨h.ex, h.fr, fun D' hD' => by
  rcases List.mem_cons.1 hD' with rfl | h'
  ·exact ⟨hD, hd⟩
  ·exact h.marks D' h'⟩
theorem GS.cold (L : M.Ok w F caps) (hD : w.heap.size ≤ D) (h : GS M w F caps ms A cc c g st W) (hn : Nc W D) : ∀ x ∈ M.Z ++ [w.heap.size, w.heap.size + 1 + 1], x ∉ [D, D + 1] := by
 intro x hx
 rcases List.mem_append.1 hx with hx | hx
 ·have := L.zB x hx
  have := L.Bw
  simp; omega
 ·simp only [List.mem_cons, List.not_mem_nil, or_false] at hx
  rcases hx with rfl | rfl
  ·exact hn.blk h.cb
  ·exact hn.blk h.gb
theorem GS.clear {S : List Nat} (L : M.Ok w F caps) (hD : w.heap.size ≤ D) (h : GS M w F caps ms A cc c g st W) (hn : Nc W D) (hf : Fr S W W') (hS : ∀ x ∈ S, x ∈ M.Z ++ [w.heap.size, w.heap.size + 1 + 1]) : Clear D W W' :=
 ⟨S, hf, fun hm => h.cold L hD hn D (hS D hm) (by simp), fun hm => h.cold L hD hn (D + 1) (hS _ hm) (by simp)⟩
theorem GS.below (h : GS M w F caps ms A cc c g st W) : ∀ D' ∈ ms, D' < W.heap.size := fun D' hD' => (Array.getElem?_eq_some_iff.1 (h.marks D' hD').2).1
end
set_option maxHeartbeats 6400000 in
theorem minimalG_any {σ : Type} (M : MinC σ) (w : World) (F : FuncId) (caps : Array Value) (st0 : σ) (A0 : Option Addr) (cc0 : Nat) (c0 : List Int) (L : M.Ok w F caps) (hsk : M.I w st0)
  (hr : Rd w (.int .i64) A0 cc0 c0) (hA : 0 < c0.length → ∀ a, A0 = some a → M.B ≤ a.block) (hset : isSet M.n c0 = true) (hl : c0.length ≤ 256) :
  Calls Tryz.prog 61 #[.slice A0 c0.length cc0, .func (.func F) #[] caps] w (GPost M w ((minT (minM c0 2 + 1) c0 2).go M.stp st0)) := by
 have hent2 := L.ent
 obtain ⟨full, hful⟩ : ∃ r, (minT (minM c0 2 + 1) c0 2).go M.stp st0 = r := ⟨_, rfl⟩
 rw [hful]
 obtain ⟨W0, hW0⟩ : ∃ W0, W0 = (((w.alloc (.cells #[.slice A0 c0.length cc0] 53)).alloc (.cells #[.func (.func F) #[] caps] 107)).alloc (.cells #[.int .i64 2] 3)) := ⟨_, rfl⟩
 have hI0 : GO M w F caps full [] (minM c0 2 + 1) W0 := by
  have hs0 : GS M w F caps [] A0 cc0 c0 2 st0 W0 := by
   have hfw : Fr [] w W0 := by rw [hW0]; exact frx
   refine ⟨hfw.mono (by simp), L.fr _ _ _ _ hsk hfw (by simp), ?_, hr.fr0 hfw, fun h0 a ha => ⟨hA h0 a ha, ?_⟩, ?_, ?_, by simp⟩
   ·rw [hW0]; exact ((Blk.new w _ _ _ rfl).alloc _).alloc _
   ·have := hr.lt h0 a ha; omega
   ·rw [hW0]; exact (Blk.new _ _ _ _ (by simp)).alloc _
   ·rw [hW0]; exact Blk.new _ _ _ _ (by simp)
  exact ⟨A0, cc0, c0, 2, st0, hs0, ⟨Nat.le_refl _, by omega⟩, hl, Nat.lt_succ_self _, hset, hful.symm⟩
 have HW0 := Lib.hid hW0.symm
 clear hW0 hful
 refine calls_of_wpR Tryz.func61 rfl ?_
 simp only [Tryz.ntmps61, List.size_toArray, List.length_cons, List.length_nil, Nat.reduceAdd, Nat.reduceSub, Array.replicate_succ, Array.replicate_zero, List.push_toArray, List.append_toArray, List.nil_append, List.cons_append]
 refine wpR_seq (wpR_of_wp ?_)
 go_wp2
 refine wpR_scope ?_
 refine wpR_seq (wpR_of_wp ?_)
 go_wp2
 rw [HW0.out]
 refine wpR_seq (wpR_of_wp (wp_label ?_))
 refine wpR_seq (wpR_mono (Q := GMid M w F caps full) ?loop ?rest)
 case loop =>
  refine wpR_block (wpR_loop (fun t a W => ∃ f ms, a = MinAct w f ms ∧ ms.Nodup ∧ GO M w F caps full ms t W) (minM c0 2 + 1) ?_ ?round)
  ·obtain ⟨f, hf⟩ := minAct_of (w := w) (ms := [])
   exact ⟨f, [], hf, by simp, hI0⟩
  case round =>
   rintro t a W ⟨f, ms, rfl, hnd, A, cc, c, g, st, hS, ⟨hg, hg2⟩, hcl, hm, hset, hfu⟩
   obtain ⟨s', rfl⟩ : ∃ s', t = s' + 1 := ⟨t - 1, by omega⟩
   refine ⟨s', rfl, fun K hK => ?_⟩
   have e0 := hS.cb.cell 0 rfl
   have e2 := hS.gb.cell 0 rfl
   have hcb := hS.rd.capBound
   by_cases h2 : 2 ≤ c.length
   ·have hd : decide ((c.length : Int) ≥ 2) = true := by simp; omega
    rw [minT_two h2] at hfu
    unfold MinAct
    refine wpR_seq (wpR_of_wp ?_)
    go_wp2_with fail
    refine wpR_block ?_
    refine wpR_seq (wpR_seq (wpR_of_wp ?_))
    go_wp2_with fail
    refine (cuts_any A cc c.length g W (by omega)).mono ?_
    rintro e w1 ⟨rfl, rfl⟩
    go_wp2
    refine wpR_block ?_
    have hent : ∀ args w, (callFunc 88 args).run Tryz.prog w = .ok (.enter 88 args) w := fun args w => by simp [go_sem]
    obtain ⟨b0, o0, hAA, _⟩ := hS.rd.at0 (by omega)
    subst hAA
    have hatb := (hS.at_ (by omega) _ rfl)
    have l2 := L.zB
    have l3 := L.Bw
    have hNm := cutN_le c.length (g : Int)
    obtain ⟨qs2, hqs2⟩ : ∃ q, (chunksOf c g).map (minus c) = q := ⟨_, rfl⟩
    obtain ⟨d2, hd2⟩ : ∃ d, (if c.length ≤ g then minFin c else minT s' c (min (2 * g) c.length)) = d := ⟨_, rfl⟩
    rw [hqs2, hd2] at hfu
    obtain ⟨d1, hd1⟩ : ∃ d, scanT (fun x => minT s' x (max (g - 1) 2)) d2 qs2 = d := ⟨_, rfl⟩
    rw [hd1] at hfu
    have HD1 := Lib.hid hd1
    have HD2 := Lib.hid hd2
    have HQR := Lib.hid (fun k hk => rest_get (c := c) (g := g) (k := k) hk)
    have HLR : Hid (qs2.length = cutN c.length (g : Int)) := by show _ = _; rw [← hqs2, List.length_map, chunksOf_length]
    rw [hqs2] at HQR
    clear hqs2 hd1 hd2
    have HQS := Lib.hid (fun k hk => chunk_get (c := c) (g := g) (k := k) hk)
    have HLC := Lib.hid (chunksOf_length c (g : Int))
    generalize chunksOf c (g : Int) = qs at *
    obtain ⟨f1, hf1⟩ : ∃ f, (fun x => minT s' x 2) = f := ⟨_, rfl⟩
    rw [hf1] at hfu
    have HF1 : Hid (∀ x, f1 x = minT s' x 2) := by rw [← hf1]; exact fun _ => rfl
    clear hf1
    have HMC := Lib.hid (fun k hk => min_chunk (n := M.n) hset.out hg h2 hcl (k := k) hk)
    have HMR := Lib.hid (fun k hk => min_rest (n := M.n) hset.out hg h2 hcl (k := k) hk)
    have hgv := cuts_gives W.heap.size b0 o0 c.length cc (cutN c.length (g : Int)) (some ⟨b0, o0, none⟩) (fun _ => rfl) (by omega) hNm hS.rd.le hcb
    have hzW := hS.fr.size
    obtain ⟨N, HNN⟩ : ∃ N, Hid (cutN c.length (g : Int) = N) := ⟨_, rfl⟩
    rw [HNN.out] at hgv hNm HQS HQR HMC HMR HLC HLR ⊢
    obtain ⟨W1, hW1⟩ : ∃ W1, W1 = (W.alloc (.cells #[.slice (some ⟨b0, o0, none⟩) c.length cc] 53)).alloc (.cells #[.int .i64 N] 3) := ⟨_, rfl⟩
    have hz1 : W1.heap.size = W.heap.size + 1 + 1 := by rw [hW1]; simp
    have HZ1 := Lib.hid hz1
    have hDD : w.heap.size ≤ W1.heap.size := by omega
    have hfW1 : Fr [] W W1 := by rw [hW1]; exact frx
    have hI1 : GI M w F caps full ms (some ⟨b0, o0, none⟩) cc c g W.heap.size N f1 d1 qs 0 W1 :=
     ⟨Nat.zero_le _, st, hS.fr_ L hfW1, by rw [hW1]; exact (Blk.new W _ _ _ rfl).alloc _, by rw [hW1]; exact Blk.new _ _ _ _ (by simp), hfu⟩
    rw [← hW1]
    clear hW1 hz1
    have hmsb := hS.below
    clear hfu
    refine wpR_rangeFunc 15 rfl rfl hent hgv (GI M w F caps full ms (some ⟨b0, o0, none⟩) cc c g W.heap.size N f1 d1 qs)
     (fun code W => code = .exit 1 ∧ GO M w F caps full ms s' W) (GQ M w full ms) W1.heap.size rfl
     (fun k W W' h hn hf => h.nc L (by have := HZ1.out; omega) (fun D' hD' => by have := hmsb D' hD'; have := HZ1.out; omega) hn hf) (fun code W W' h hn hf => ⟨h.1, h.2.nc L (by have := HZ1.out; omega) (fun D' hD' => by have := hmsb D' hD'; have := HZ1.out; omega) hn hf⟩)
     (fun k W h => by obtain ⟨_, _, _, h3, h4, _⟩ := h; exact ⟨h3.cell 0 rfl, h4.cell 0 rfl⟩) (fun W hf _ => hI1.fr_ L hf)
     (fun k => { tmps := #[f 0, f 1, .pointer (some ⟨w.heap.size, 0, none⟩), .pointer (some ⟨w.heap.size + 1, 0, none⟩), f 4, .pointer (some ⟨w.heap.size + 1 + 1, 0, none⟩), chunkV b0 o0 c.length cc N k, f 7, f 8, .slice (some ⟨b0, o0, none⟩) c.length cc, .int .i64 c.length, .bool true, .slice (some ⟨b0, o0, none⟩) c.length cc, .int .i64 g, .func (.func 88) #[] #[.pointer (some ⟨W.heap.size + 1, 0, none⟩), .pointer (some ⟨W.heap.size, 0, none⟩)], chunkV b0 o0 c.length cc N k, f 16, f 17, f 18, f 19, f 20, f 21, f 22, f 23, f 24, f 25, f 26, f 27, f 28, f 29, f 30, f 31, f 32, f 33, f 34, f 35, f 36, f 37, f 38, f 39, f 40, f 41, f 42, f 43, f 44, f 45, f 46, f 47, f 48, f 49, f 50, f 51], defers := [] })
     ?assign ?body ?done ?stop ?pan
    case assign =>
     intro l k W K hK
     gi_wp2
     exact hK
    case body =>
     rintro k W2 hk ⟨_, st, hS, hB1, hB2, hfu⟩ hn
     have hch := Lib.hid (chunkV_eq (b := b0) (o := o0) (c := cc) (N := N) (xs := c) hk)
     have hrc := (hS.rd.chunk hk hNm : Rd W2 (.int .i64) (some ⟨b0, o0 + k * c.length / N, none⟩) (cc - k * c.length / N) (chunkOf c N k))
     have hqk := Lib.hid (HQS.out k hk)
     obtain ⟨hcs, hcm, hcl2⟩ := HMC.out k hk
     rw [hch.out]
     generalize chunkOf c N k = q at *
     have e1 := hS.fb.cell 0 rfl
     have HCS := Lib.hid hcs
     rcases hq : M.stp st q with _ | ⟨v, st'⟩
     ·have hR : Hid (full = .inl q) := by show _ = _; rw [hfu.out, gscan_none hqk.out hq]
      have HQ := Lib.hid hq
      clear hq hfu hcs
      gi_wp2_with fail
      refine ⟨trivial, rfl, (CallsIn.inRound _ (callsIn_wide.2 (L.ask W2 st q _ _ hS.inv hS.fr hrc HCS.out (by omega) HQ.out))).mono ?_⟩
      rintro e W3 ⟨ch, rfl, hf3, hp3⟩
      gi_wp2
      exact ⟨rfl, hS.clear (S := []) L hDD hn hf3 (by simp), hS.quit L hf3 hp3 hR⟩
     ·have hR : Hid (full = (if v = 2 then f1 q else scanT f1 d1 (qs.drop (k + 1))).go M.stp st') := by show _ = _; rw [hfu.out, gscan_some hqk.out hq]
      have HQ := Lib.hid hq
      clear hq hfu hcs
      by_cases hv : v = 2
      ·have hb : (v == 2) = true := by simp [hv]
       rw [if_pos hv, HF1.out] at hR
       clear hv
       gi_wp2_with fail
       refine ⟨trivial, rfl, (CallsIn.inRound _ (callsIn_wide.2 (L.got W2 st q _ _ _ _ hS.inv hS.fr hrc HCS.out (by omega) HQ.out))).mono ?_⟩
       rw [hb]
       rintro e W3 ⟨rfl, hf3, hs3⟩
       have hS3 := hS.asked L hf3 hs3
       have hrc3 := hrc.fr hf3 (fun _ a ha hm => by injection ha with ha; subst ha; have := l2 _ hm; simp at this; omega)
       gi_wp2_with fail
       refine ⟨trivial, rfl, (CallsIn.inRound _ (callsIn_wide.2 (fresh_any _ _ q W3 hrc3 (by omega)))).mono ?_⟩
       simp only [RetOwn, List.length_map]
       rintro e W4 ⟨A4, c4, rfl, hf4, ho4⟩
       have hS4 := hS3.fr_ L hf4
       have hgl := hS3.gb.lt
       have hsz3 := hS3.fr.size
       have hat4 : 0 < q.length → ∀ a, A4 = some a → M.B ≤ a.block ∧ a.block ≠ w.heap.size + 1 + 1 := fun _ a ha => by
        have := Nw.own ho4 a ha
        omega
       have hS5 := hS4.putC L (own_rd ho4 rfl rfl) hat4
       have hS6 := hS4.put (g2 := 2) L (own_rd ho4 rfl rfl) hat4
       have e5 := hS4.cb.cell 0 rfl
       have f5 := hS4.cb.frozen 0
       have e6 := hS5.gb.cell 0 rfl
       have f6 := hS5.gb.frozen 0
       gi_wp2_with fail
       refine ⟨hS.clear (S := M.Z ++ [w.heap.size, w.heap.size + 1 + 1]) L hDD hn ((((hf3.trans0 hf4).mono (fun x hx => List.mem_append_left _ hx)).setCell (.inl (by simp)) _).setCell (.inl (by simp)) _) (fun x hx => hx), rfl, A4, c4, q, 2, st', hS6, ⟨Nat.le_refl _, by omega⟩, hcl2, by omega, HCS, hR⟩
      ·have hb : (v == 2) = false := by simpa using hv
       rw [if_neg hv] at hR
       clear hv
       gi_wp2_with fail
       refine ⟨trivial, rfl, (CallsIn.inRound _ (callsIn_wide.2 (L.got W2 st q _ _ _ _ hS.inv hS.fr hrc HCS.out (by omega) HQ.out))).mono ?_⟩
       rw [hb]
       rintro e W3 ⟨rfl, hf3, hs3⟩
       gi_wp2_with fail
       exact ⟨hS.clear L hDD hn hf3 (fun x hx => List.mem_append_left _ hx), hk, st', hS.asked L hf3 hs3, hB1.fr hf3 (fun hm => by have := l2 _ hm; omega), hB2.fr hf3 (fun hm => by have := l2 _ hm; omega), hR⟩
    case done =>
     rintro W2 ⟨_, st, hS2, hB1, hB2, hfu2⟩ hmk
     rw [scan_done (by rw [HLC.out]; exact Nat.le_refl _)] at hfu2
     have hS3 := hS2.mark (by have := HZ1.out; omega) hmk
     have hnd3 : (W1.heap.size :: ms).Nodup := List.nodup_cons.2 ⟨fun h => by have := hmsb _ h; have := HZ1.out; omega, hnd⟩
     obtain ⟨ms2, hms2⟩ : ∃ m, m = W1.heap.size :: ms := ⟨_, rfl⟩
     rw [← hms2] at hS3 hnd3
     show wpR _ _ _ _ _
     rw [show markOf W1.heap.size :: ms.map markOf = ms2.map markOf by rw [hms2]; rfl]
     clear hms2
     dsimp only
     have e0 := hS3.cb.cell 0 rfl
     have e2 := hS3.gb.cell 0 rfl
     refine wpR_seq (wpR_seq (wpR_of_wp ?_))
     go_wp2_with fail
     refine (cuts_any (some ⟨b0, o0, none⟩) cc c.length g W2 (by omega)).mono ?_
     rintro e w1 ⟨rfl, rfl⟩
     go_wp2
     refine wpR_block ?_
     have hgv := cuts_gives W2.heap.size b0 o0 c.length cc (cutN c.length (g : Int)) (some ⟨b0, o0, none⟩) (fun _ => rfl) (by omega) (cutN_le c.length (g : Int)) hS3.rd.le hcb
     rw [HNN.out] at hgv
     rw [HNN.out]
     have hzW2 := hS3.fr.size
     obtain ⟨W4, hW4⟩ : ∃ W1, W1 = (W2.alloc (.cells #[.slice (some ⟨b0, o0, none⟩) c.length cc] 53)).alloc (.cells #[.int .i64 N] 3) := ⟨_, rfl⟩
     have hz4 : W4.heap.size = W2.heap.size + 1 + 1 := by rw [hW4]; simp
     have HZ4 := Lib.hid hz4
     have hDD : w.heap.size ≤ W4.heap.size := by omega
     have hfW4 : Fr [] W2 W4 := by rw [hW4]; exact frx
     obtain ⟨f2, hf2⟩ : ∃ f, (fun x => minT s' x (max (g - 1) 2)) = f := ⟨_, rfl⟩
     have HF2 : Hid (∀ x, f2 x = minT s' x (max (g - 1) 2)) := by rw [← hf2]; exact fun _ => rfl
     have hfu2 : Hid (full = (scanT f2 d2 qs2).go M.stp st) := by show _ = _; rw [hfu2.out, ← HD1.out, hf2]
     clear hf2
     have hI4 : GI M w F caps full ms2 (some ⟨b0, o0, none⟩) cc c g W2.heap.size N f2 d2 qs2 0 W4 :=
      ⟨Nat.zero_le _, st, hS3.fr_ L hfW4, by rw [hW4]; exact (Blk.new W2 _ _ _ rfl).alloc _, by rw [hW4]; exact Blk.new _ _ _ _ (by simp), hfu2⟩
     rw [← hW4]
     clear hW4 hz4
     have hmsb2 := hS3.below
     clear hfu2 hB1 hB2
     refine wpR_rangeFunc 24 rfl rfl hent hgv (GI M w F caps full ms2 (some ⟨b0, o0, none⟩) cc c g W2.heap.size N f2 d2 qs2)
      (fun code W => code = .exit 1 ∧ GO M w F caps full ms2 s' W) (GQ M w full ms2) W4.heap.size rfl
      (fun k W W' h hn hf => h.nc L (by have := HZ4.out; omega) (fun D' hD' => by have := hmsb2 D' hD'; have := HZ4.out; omega) hn hf) (fun code W W' h hn hf => ⟨h.1, h.2.nc L (by have := HZ4.out; omega) (fun D' hD' => by have := hmsb2 D' hD'; have := HZ4.out; omega) hn hf⟩)
      (fun k W h => by obtain ⟨_, _, _, h3, h4, _⟩ := h; exact ⟨h3.cell 0 rfl, h4.cell 0 rfl⟩) (fun W hf _ => hI4.fr_ L hf)
      (fun k => { tmps := #[f 0, f 1, .pointer (some ⟨w.heap.size, 0, none⟩), .pointer (some ⟨w.heap.size + 1, 0, none⟩), f 4, .pointer (some ⟨w.heap.size + 1 + 1, 0, none⟩), f 6, chunkV b0 o0 c.length cc N k, f 8, .slice (some ⟨b0, o0, none⟩) c.length cc, .int .i64 c.length, .bool true, .slice (some ⟨b0, o0, none⟩) c.length cc, .int .i64 g, .func (.func 88) #[] #[.pointer (some ⟨W.heap.size + 1, 0, none⟩), .pointer (some ⟨W.heap.size, 0, none⟩)], f 15, f 16, f 17, f 18, f 19, f 20, .slice (some ⟨b0, o0, none⟩) c.length cc, .int .i64 g, .func (.func 88) #[] #[.pointer (some ⟨W2.heap.size + 1, 0, none⟩), .pointer (some ⟨W2.heap.size, 0, none⟩)], chunkV b0 o0 c.length cc N k, f 25, f 26, f 27, f 28, f 29, f 30, f 31, f 32, f 33, f 34, f 35, f 36, f 37, f 38, f 39, f 40, f 41, f 42, f 43, f 44, f 45, f 46, f 47, f 48, f 49, f 50, f 51], defers := [] })
      ?assign2 ?body2 ?done2 ?stop2 ?pan2
     case assign2 =>
      intro l k W K hK
      gi_wp2
      exact hK
     case body2 =>
      rintro k W5 hk ⟨_, st, hS, hB1, hB2, hfu⟩ hn
      have hch := Lib.hid (chunkV_eq (b := b0) (o := o0) (c := cc) (N := N) (xs := c) hk)
      have hrc := (hS.rd.chunk hk hNm : Rd W5 (.int .i64) (some ⟨b0, o0 + k * c.length / N, none⟩) (cc - k * c.length / N) (chunkOf c N k))
      have hqk := Lib.hid (HQR.out k hk)
      obtain ⟨hcs, hcm, hcl2⟩ := HMR.out k hk
      rw [hch.out]
      generalize chunkOf c N k = x at *
      have HCS := Lib.hid hcs
      clear hcs
      have e0 := hS.cb.cell 0 rfl
      gi_wp2_with fail
      refine ⟨trivial, rfl, (CallsIn.inRound _ (callsIn_wide.2 (without_any _ _ cc _ c x W5 hS.rd hrc (by omega)))).mono ?_⟩
      simp only [RetOwn, List.length_map]
      rintro e W6 ⟨A6, c6, rfl, hf6, ho6⟩
      have hS6 := hS.fr_ L hf6
      have hr6 : Rd W6 (.int .i64) A6 c6 (minus c x) := own_rd ho6 rfl rfl
      have hsz5 := hS.fr.size
      have hgl := hS.gb.lt
      have hat6 : 0 < (minus c x).length → ∀ a, A6 = some a → M.B ≤ a.block ∧ a.block ≠ w.heap.size + 1 + 1 := fun _ a ha => by
       have := Nw.own ho6 a ha
       omega
      clear ho6 hrc
      generalize minus c x = q at *
      have e1 := hS6.fb.cell 0 rfl
      rcases hq : M.stp st q with _ | ⟨v, st'⟩
      ·have hR : Hid (full = .inl q) := by show _ = _; rw [hfu.out, gscan_none hqk.out hq]
       have HQ := Lib.hid hq
       clear hq hfu
       gi_wp2_with fail
       refine ⟨trivial, rfl, (CallsIn.inRound _ (callsIn_wide.2 (L.ask W6 st q _ _ hS6.inv hS6.fr hr6 HCS.out (by omega) HQ.out))).mono ?_⟩
       rintro e W7 ⟨ch, rfl, hf7, hp7⟩
       gi_wp2
       exact ⟨rfl, hS.clear (S := []) L hDD hn (hf6.trans hf7) (by simp), hS6.quit L hf7 hp7 hR⟩
      ·have hR : Hid (full = (if v = 2 then f2 q else scanT f2 d2 (qs2.drop (k + 1))).go M.stp st') := by show _ = _; rw [hfu.out, gscan_some hqk.out hq]
       have HQ := Lib.hid hq
       clear hq hfu
       by_cases hv : v = 2
       ·have hb : (v == 2) = true := by simp [hv]
        rw [if_pos hv, HF2.out] at hR
        clear hv
        gi_wp2_with fail
        refine ⟨trivial, rfl, (CallsIn.inRound _ (callsIn_wide.2 (L.got W6 st q _ _ _ _ hS6.inv hS6.fr hr6 HCS.out (by omega) HQ.out))).mono ?_⟩
        rw [hb]
        rintro e W7 ⟨rfl, hf7, hs7⟩
        have hS7 := hS6.asked L hf7 hs7
        have hr7 := hr6.fr hf7 (fun h0 a ha hm => by have := (hat6 h0 a ha).1; have := l2 _ hm; omega)
        have hS8 := hS7.putC L hr7 hat6
        have e5 := hS7.cb.cell 0 rfl
        have f5 := hS7.cb.frozen 0
        have e6 := hS8.gb.cell 0 rfl
        have f6 := hS8.gb.frozen 0
        have hcl7 : Clear W4.heap.size W5 ((W7.setCell ⟨w.heap.size, 0, none⟩ (.slice A6 q.length c6)).setCell ⟨w.heap.size + 1 + 1, 0, none⟩ (.int .i64 (max (g - 1) 2 : Nat))) :=
         hS.clear (S := M.Z ++ [w.heap.size, w.heap.size + 1 + 1]) L hDD hn (((((hf6.mono (by simp)).trans hf7).mono (fun x hx => List.mem_append_left _ hx)).setCell (.inl (by simp)) _).setCell (.inl (by simp)) _) (fun x hx => hx)
        have hO9 : GO M w F caps full ms2 s' ((W7.setCell ⟨w.heap.size, 0, none⟩ (.slice A6 q.length c6)).setCell ⟨w.heap.size + 1 + 1, 0, none⟩ (.int .i64 (max (g - 1) 2 : Nat))) :=
         ⟨A6, c6, q, max (g - 1) 2, st', hS7.put (g2 := max (g - 1) 2) L hr7 hat6, by omega, hcl2, by omega, HCS, hR⟩
        have HO9 := Lib.hid hO9
        have HCL := Lib.hid hcl7
        clear hO9 hcl7 hcm
        by_cases hg3 : g = 2
        ·subst hg3
         gi_wp2_with fail
         exact ⟨HCL.out, rfl, HO9.out⟩
        ·obtain ⟨m, rfl⟩ : ∃ m : Nat, g = m + 1 := ⟨g - 1, by omega⟩
         have hm2 : max (m + 1 - 1) 2 = m := by omega
         rw [hm2] at HCL HO9
         have hw1 : IntKind.i64.wrap ((m : Int) + 1 - 1) = (m : Int) := by rw [Int.add_sub_cancel]; exact IntWalk.i64_in _ (by omega)
         have hw2 : IntKind.i64.wrap (m : Int) = (m : Int) := IntWalk.i64_in _ (by omega)
         have hw3 : ¬ (m : Int) < 2 := by omega
         have hw4 : max (m : Int) 2 = (m : Int) := by omega
         gi_wp2_with fail
         exact ⟨HCL.out, rfl, HO9.out⟩
       ·have hb : (v == 2) = false := by simpa using hv
        rw [if_neg hv] at hR
        clear hv
        gi_wp2_with fail
        refine ⟨trivial, rfl, (CallsIn.inRound _ (callsIn_wide.2 (L.got W6 st q _ _ _ _ hS6.inv hS6.fr hr6 HCS.out (by omega) HQ.out))).mono ?_⟩
        rw [hb]
        rintro e W7 ⟨rfl, hf7, hs7⟩
        gi_wp2_with fail
        have hf57 : Fr M.Z W5 W7 := (hf6.mono (by simp)).trans hf7
        exact ⟨hS.clear L hDD hn hf57 (fun x hx => List.mem_append_left _ hx), hk, st', hS6.asked L hf7 hs7, hB1.fr hf57 (fun hm => by have := l2 _ hm; omega), hB2.fr hf57 (fun hm => by have := l2 _ hm; omega), hR⟩
     case done2 =>
      rintro W3 ⟨_, st, hS5, hB1, hB2, hfu2⟩ hmk
      rw [scan_done (by rw [HLR.out]; exact Nat.le_refl _), ← HD2.out] at hfu2
      have hS6 := hS5.mark (by have := HZ4.out; omega) hmk
      have hnd4 : (W4.heap.size :: ms2).Nodup := List.nodup_cons.2 ⟨fun h => by have := hmsb2 _ h; have := HZ4.out; omega, hnd3⟩
      obtain ⟨ms3, hms3⟩ : ∃ m, m = W4.heap.size :: ms2 := ⟨_, rfl⟩
      rw [← hms3] at hS6 hnd4
      show wpR _ _ _ _ _
      rw [show markOf W4.heap.size :: ms2.map markOf = ms3.map markOf by rw [hms3]; rfl]
      clear hms3
      dsimp only
      have e0 := hS6.cb.cell 0 rfl
      have e2 := hS6.gb.cell 0 rfl
      have f2 := hS6.gb.frozen 0
      refine wpR_of_wp ?_
      by_cases hge : c.length ≤ g
      ·rw [if_pos hge] at hfu2
       go_wp2_with fail
       obtain ⟨f', hf'⟩ := minAct_of (w := w) (ms := ms3)
       exact ⟨f', ms3, _, cc, c, g, st, hf', hnd4, hS6, hcl, hfu2⟩
      ·rw [if_neg hge] at hfu2
       have hmf := min_finer hg (Nat.lt_of_not_le hge)
       by_cases hge2 : 2 * g ≤ c.length
       ·have hmn : min (2 * g) c.length = 2 * g := by omega
        rw [hmn] at hmf hfu2
        have hw1 : IntKind.i64.wrap (2 * (g : Int)) = ((2 * g : Nat) : Int) := by rw [IntWalk.i64_in _ (by omega)]; omega
        have hw3 : ¬ (c.length : Int) < ((2 * g : Nat) : Int) := by omega
        have hw4 : min ((2 * g : Nat) : Int) (c.length : Int) = ((2 * g : Nat) : Int) := by omega
        have hO := (⟨_, cc, c, 2 * g, st, hS6.putG L, ⟨by omega, by omega⟩, hcl, by omega, hset, hfu2⟩ : GO M w F caps full ms3 s' _)
        generalize 2 * g = g2 at *
        have HO := Lib.hid hO
        clear hO hge2 hmf hmn
        go_wp2_with fail
        obtain ⟨f', hf'⟩ := minAct_of (w := w) (ms := ms3)
        exact ⟨f', ms3, hf', hnd4, HO.out⟩
       ·have hmn : min (2 * g) c.length = c.length := by omega
        rw [hmn] at hmf hfu2
        have hw1 : IntKind.i64.wrap (2 * (g : Int)) = ((2 * g : Nat) : Int) := by rw [IntWalk.i64_in _ (by omega)]; omega
        have hw3 : (c.length : Int) < ((2 * g : Nat) : Int) := by omega
        have hw4 : min ((2 * g : Nat) : Int) (c.length : Int) = (c.length : Int) := by omega
        have hw5 : ¬ ((2 * g : Nat) : Int) < (c.length : Int) := by omega
        have hO := (⟨_, cc, c, c.length, st, hS6.putG L, ⟨by omega, by omega⟩, hcl, by omega, hset, hfu2⟩ : GO M w F caps full ms3 s' _)
        generalize 2 * g = g2 at *
        have HO := Lib.hid hO
        clear hO hge2 hmf hmn
        go_wp2_with fail
        obtain ⟨f', hf'⟩ := minAct_of (w := w) (ms := ms3)
        exact ⟨f', ms3, hf', hnd4, HO.out⟩
     case stop2 =>
      rintro code W3 ⟨rfl, hO⟩ hmk
      refine wpR_of_wp ?_
      go_wp2
      obtain ⟨f', hf'⟩ := minAct_of (w := w) (ms := W4.heap.size :: ms2)
      exact ⟨f', _, hf', List.nodup_cons.2 ⟨fun h => by have := hmsb2 _ h; have := HZ4.out; omega, hnd3⟩, hO.mark (by have := HZ4.out; omega) hmk⟩
     case pan2 =>
      rintro ch W3 hQ hmk
      exact ⟨W4.heap.size :: ms2, rfl, List.nodup_cons.2 ⟨fun h => by have := hmsb2 _ h; have := HZ4.out; omega, hnd3⟩, hQ.mark (by have := HZ4.out; omega) hmk⟩
    case stop =>
     rintro code W2 ⟨rfl, hO⟩ hmk
     refine wpR_of_wp ?_
     go_wp2
     obtain ⟨f', hf'⟩ := minAct_of (w := w) (ms := W1.heap.size :: ms)
     exact ⟨f', _, hf', List.nodup_cons.2 ⟨fun h => by have := hmsb _ h; have := HZ1.out; omega, hnd⟩, hO.mark (by have := HZ1.out; omega) hmk⟩
    case pan =>
     rintro ch W2 hQ hmk
     exact ⟨W1.heap.size :: ms, rfl, List.nodup_cons.2 ⟨fun h => by have := hmsb _ h; have := HZ1.out; omega, hnd⟩, hQ.mark (by have := HZ1.out; omega) hmk⟩
   ·have hd : decide ((c.length : Int) ≥ 2) = false := by simp; omega
    rw [minT_le1 h2] at hfu
    unfold MinAct
    refine wpR_seq (wpR_of_wp ?_)
    go_wp2_with fail
    obtain ⟨f', hf'⟩ := minAct_of (w := w) (ms := ms)
    exact ⟨f', ms, A, cc, c, g, st, hf', hnd, hS, hcl, hfu⟩
 case rest =>
  rintro e a W h
  cases e <;> first | exact h.elim | skip
  case panic ch =>
   obtain ⟨ms, hd, hnd, hQ⟩ := h
   show LeavesInM _ _ _ _ _ _ _ _ _
   rw [hd]
   exact leaves_marks _ (by simp) ms W hnd (fun D hD => (hQ.marks D hD).2) fun W' hf' => hQ.leave L hf'
  case normal =>
   obtain ⟨f, ms, A, cc, c, g, st, rfl, hnd, hS, hcl, hfu⟩ := h
   refine wpR_of_wp ?_
   have e0 := hS.cb.cell 0 rfl
   have f0 := hS.cb.frozen 0
   have e1 := hS.fb.cell 0 rfl
   have hmk : ∀ D ∈ ms, W.heap[D]? = some (.deferred (some [])) := fun D hD => (hS.marks D hD).2
   unfold MinAct
   by_cases h1 : c.length = 1
   ·have hd : decide ((c.length : Int) = 1) = true := by simp [h1]
    have hi1 : ((c.length : Int) == 1) = true := by simp [h1]
    unfold minFin at hfu
    rw [if_pos h1] at hfu
    rcases hq : M.stp st [] with _ | ⟨v, st'⟩
    ·rw [Tr.go_none hq] at hfu
     have HQ := Lib.hid hq
     clear hq
     go_wp2_with fail
     refine (L.ask W st [] none 0 hS.inv hS.fr (Rd.nil_ _ _) rfl (by simp) HQ.out).mono ?_
     rintro e W2 ⟨ch, rfl, hf2, hp2⟩
     have hQ := hS.quit L hf2 hp2 hfu
     go_wp2
     exact leaves_marks _ (by simp) ms W2 hnd (fun D hD => (hQ.marks D hD).2) fun W' hf' => hQ.leave L hf'
    ·rw [Tr.go_some hq] at hfu
     have HQ := Lib.hid hq
     clear hq
     by_cases hv : v = 2
     ·have hb : (v == 2) = true := by simp [hv]
      have hfu2 : Hid (full = .inr ([], (st'))) := by show _ = _; rw [hfu.out, if_pos hv]; rfl
      clear hfu hv
      go_wp2_with fail
      refine (L.got W st [] none 0 _ _ hS.inv hS.fr (Rd.nil_ _ _) rfl (by simp) HQ.out).mono ?_
      rw [hb]
      rintro e W2 ⟨rfl, hf2, hs2⟩
      have hS2 := hS.asked L hf2 hs2
      have e0 := hS2.cb.cell 0 rfl
      have f0 := hS2.cb.frozen 0
      go_wp2_with fail
      have hS3 := hS2.putC L (Rd.nil_ W2 (.int .i64)) (by simp)
      refine leaves_marks .returning (by simp) ms _ hnd (fun D hD => (hS3.marks D hD).2) fun W' hf' => ?_
      refine ⟨_, results_tmp rfl _ _ _, ?_⟩
      exact hS3.leave L (Rd.nil_ _ _) (by simp) hfu2.out hf'
     ·have hb : (v == 2) = false := by simpa using hv
      have hfu2 : Hid (full = .inr (c, (st'))) := by show _ = _; rw [hfu.out, if_neg hv]; rfl
      clear hfu hv
      go_wp2_with fail
      refine (L.got W st [] none 0 _ _ hS.inv hS.fr (Rd.nil_ _ _) rfl (by simp) HQ.out).mono ?_
      rw [hb]
      rintro e W2 ⟨rfl, hf2, hs2⟩
      have hS2 := hS.asked L hf2 hs2
      have e0 := hS2.cb.cell 0 rfl
      go_wp2_with fail
      refine leaves_marks .returning (by simp) ms W2 hnd (fun D hD => (hS2.marks D hD).2) fun W' hf' => ?_
      refine ⟨_, results_tmp rfl _ _ _, ?_⟩
      have := hS2.leave L hS2.rd (fun h0 a ha => (hS2.at_ h0 a ha).1) hfu2.out hf'
      rw [h1] at this
      exact this
   ·have hi1 : ((c.length : Int) == 1) = false := by rw [beq_eq_false_iff_ne]; omega
    unfold minFin at hfu
    rw [if_neg h1] at hfu
    go_wp2_with fail
    refine leaves_marks .returning (by simp) ms W hnd hmk fun W' hf' => ?_
    refine ⟨_, results_tmp rfl _ _ _, ?_⟩
    exact hS.leave L hS.rd (fun h0 a ha => (hS.at_ h0 a ha).1) hfu.out hf'
end

/- List of the program: the function that run is handed. -/
section
open Go Go.RowKit
set_option maxRecDepth 100000 in
set_option maxHeartbeats 3200000 in
theorem listdo_any (s km bn bc h0 : Nat) (ans : List Int) (w0 w1 : World) (n : Int) (hw0 : Fr [] w0 w1) (htab : Tab w0) (hn : n ≤ 256)
  (hB : w0.heap.size ≤ bc) (hbh : bc < h0) (hbnh : bn < h0) (hnc : bn ≠ bc) (hs0 : h0 < km) (hs1 : km < s) (hs2 : s < w1.heap.size) (hsk : SK w1 s km ans 0 []) (hbn : Blk w1 bn 3 #[.int .i64 n])
  (hbc : Blk w1 bc 53 #[.slice none 0 0]) :
  Calls Tryz.prog 78 #[.pointer (some ⟨s, 0, none⟩), .pointer (some ⟨bn, 0, none⟩), .pointer (some ⟨bc, 0, none⟩)] w1 (SetDo w1 s km bc h0 w1.heap.size ans ((listT n.toNat).go (askS ans) (0, []))) := by
 have hul := upTo_length n.toNat
 have HUS := Lib.hid (upTo_set n.toNat)
 have HTD : Hid (listT n.toNat = .ask (upTo n.toNat) fun v => if v = 2 then (minT (minM (upTo n.toNat) 2 + 1) (upTo n.toNat) 2).map fun c => (0, c, []) else .ret (7, [], [])) := rfl
 have hal : (upTo n.toNat).length ≤ 256 := by omega
 have hn256 : n.toNat ≤ 256 := by omega
 obtain ⟨all, hall⟩ : ∃ all, all = upTo n.toNat := ⟨_, rfl⟩
 rw [← hall] at HUS HTD hal
 have hwh : ∀ W, Calls Tryz.prog 79 #[.int .i64 n] W (RetN W 3 all) := fun W => by rw [hall]; exact whole_any n W (by omega)
 clear hall
 clear hul
 obtain ⟨full, hful⟩ : ∃ f, (listT n.toNat).go (askS ans) (0, []) = f := ⟨_, rfl⟩
 rw [hful]
 have HFUL := Lib.hid hful
 have HN := Lib.hid hn256
 clear hful hn256
 have hcand0 : ∀ W, Fr [s, km] w1 W → CandAt W bc (Out h0 w1.heap.size) [] := fun W hf => ⟨none, 0, hbc.fr hf (by simp; omega), Rd.nil_ _ _, by simp⟩
 have k0 := hbn.cell 0 rfl
 have hsb : Blk (w1.alloc (.cells #[.pointer (some ⟨s, 0, none⟩)] 137)) w1.heap.size 137 #[.pointer (some ⟨s, 0, none⟩)] := Blk.new w1 _ _ _ rfl
 obtain ⟨W, hW⟩ : ∃ W, W = w1.alloc (.cells #[.pointer (some ⟨s, 0, none⟩)] 137) := ⟨_, rfl⟩
 have hfW : Fr [] w1 W := by rw [hW]; exact (Fr.refl _ _).alloc _
 have hzW : W.heap.size = w1.heap.size + 1 := by rw [hW]; simp
 rw [← hW] at hsb
 have HW := Lib.hid hW.symm
 have HZ := Lib.hid hzW
 clear hW hzW
 have k1 := (hbn.alloc (.cells #[.pointer (some ⟨s, 0, none⟩)] 137)).cell 0 rfl
 go_enter Tryz.func78, Tryz.ntmps78
 go_wp2_with fail
 rw [HW.out]
 refine (hwh W).mono ?_
 rintro e w2 ⟨A2, c2, rfl, hf2, ho2⟩
 have hf12 := hfW.trans hf2
 have hr2 : Rd w2 (.int .i64) A2 c2 all := (Rd.of_own ho2).2
 have hsb2 := hsb.fr hf2 (by simp)
 have e3 := hsb2.cell 0 rfl
 have hat2 : 0 < all.length → ∀ a, A2 = some a → w1.heap.size ≤ a.block := fun _ a ha => by have := Nw.own ho2 a ha; have := HZ.out; omega
 clear k0 k1
 rcases hq : askV ans 0 [] all with _ | ⟨v, u, kn⟩
 ·have hR : Hid (full = .inl all) := by show _ = _; rw [← HFUL.out, HTD.out, Tr.go_none (askS_none hq)]
  have HQ := Lib.hid hq
  clear hq
  go_wp2_with fail
  refine (fails_ask s km ans 0 [] A2 c2 all w2 (hsk.fr0 hf12) hr2 (by omega) (i64_of HUS.out (by have := HN.out; omega)) (htab.fr (hw0.trans hf12)) HQ.out).mono ?_
  rintro e w3 ⟨A3, c3, rfl, hr3, hf3, hnw⟩
  go_wp2
  rw [hR.out]
  exact ⟨rfl, A3, c3, rfl, hr3, (hf12.trans hf3).mono (by simp), hnw.mono hf12.size, [], hcand0 _ ((hf12.trans hf3).mono (by simp)), by simp⟩
 ·have hfl : full = (if v = 2 then (minT (minM all 2 + 1) all 2).map fun c => (0, c, []) else .ret (7, [], [])).go (askS ans) (u, kn) := by
   rw [← HFUL.out, HTD.out, Tr.go_some (askS_some hq)]
  have HQ := Lib.hid hq
  clear hq
  by_cases hv : v = 2
  ·have hb : (v == 2) = true := by simp [hv]
   rw [if_pos hv, Tr.go_map] at hfl
   clear hv
   have HFL := Lib.hid hfl
   clear hfl
   go_wp2_with fail
   refine (fails_got s km ans 0 [] A2 c2 all w2 (hsk.fr0 hf12) hr2 (by omega) (i64_of HUS.out (by have := HN.out; omega)) (htab.fr (hw0.trans hf12)) HQ.out).mono ?_
   rw [hb]
   rintro e w3 ⟨rfl, hf3, hsk3⟩
   have hmf : ∀ (fn : Fn) (first cap : Array Value) (w : World), (Instr.makeFunc fn first cap).run Tryz.prog w = .ok (.func fn first cap) w := fun _ _ _ _ => rfl
   have hf13 : Fr [s, km] w1 w3 := (hf12.mono (by simp)).trans hf3
   have hz12 := hf12.size
   have hz3 := hf3.size
   have hz1 := HZ.out
   have hz2 := hf2.size
   have hsb3 := hsb2.fr hf3 (by simp; omega)
   have hr3 := hr2.fr hf3 (fun h0 a ha => by have := hat2 h0 a ha; simp; omega)
   have hw03 : Fr [] w0 w3 := hw0.trans2 hf13 (by have := hw0.size; simp; omega)
   have hmin := minimal_any w0 w3 s km w1.heap.size w1.heap.size n.toNat ans u kn A2 c2 all ⟨by omega, by omega, by omega, Nat.le_refl _, by omega⟩ htab hw03 hsk3 hr3 hat2 HUS.out (by omega) HN.out hsb3
   have HEN : Hid (∀ c u' kn', (minT (minM all 2 + 1) all 2).go (askS ans) (u, kn) = .inr (c, (u', kn')) → isSet n.toNat c = true) := fun c u' kn' h => Tr.ends_go (P := fun q => isSet n.toNat q = true) _ _ (minT_ends _ _ _ HUS.out) h
   generalize (minT (minM all 2 + 1) all 2).go (askS ans) (u, kn) = m at *
   rcases m with q | ⟨c, u', kn'⟩
   ·have hR : Hid (full = .inl q) := HFL.out
    clear HFL HEN
    go_wp2_with fail
    refine hmin.mono ?_
    rintro e w4 ⟨A4, c4, rfl, hr4, hf4, hn4⟩
    go_wp2
    rw [hR.out]
    exact ⟨rfl, A4, c4, rfl, hr4, (hf13.trans hf4).mono (by simp), hn4, [], hcand0 _ (hf13.trans hf4), by simp⟩
   ·have hR : Hid (full = .inr ((0, c, []), (u', kn'))) := HFL.out
    have hcs := HEN.out c u' kn' rfl
    clear HFL HEN
    go_wp2_with fail
    refine hmin.mono ?_
    rintro e w4 ⟨A4, c4, rfl, hr4, hf4, hsk4, hat4⟩
    have hf14 := hf13.trans hf4
    have hbc4 := hbc.fr hf14 (by simp; omega)
    have e5 := hbc4.cell 0 rfl
    have f5 := hbc4.frozen 0
    have hcl := (set_inR hcs).2
    have hn4 := HN.out
    go_wp2_with fail
    go_ret
    rw [hR.out]
    refine ⟨rfl, (hsk4.farS hbc4 (by omega) (by omega) _).srch, (hf14.mono (by simp)).setCell (.inl (by simp)) _, c, ⟨A4, c4, hbc4.set_ 0 _, hr4.setCell (fun h0 a ha => ?_) _, fun h0 a ha => .inr (hat4 h0 a ha)⟩, by omega, fun _ => rfl⟩
    have := hat4 h0 a ha
    show a.block ≠ bc
    omega
  ·have hb : (v == 2) = false := by simpa using hv
   rw [if_neg hv] at hfl
   have hR : Hid (full = .inr ((7, [], []), (u, kn))) := hfl
   clear hfl hv
   go_wp2_with fail
   refine (fails_got s km ans 0 [] A2 c2 all w2 (hsk.fr0 hf12) hr2 (by omega) (i64_of HUS.out (by have := HN.out; omega)) (htab.fr (hw0.trans hf12)) HQ.out).mono ?_
   rw [hb]
   rintro e w3 ⟨rfl, hf3, hsk3⟩
   have hf13 : Fr [s, km] w1 w3 := (hf12.mono (by simp)).trans hf3
   go_wp2
   go_ret
   rw [hR.out]
   exact ⟨rfl, hsk3.srch, hf13.mono (by simp), [], hcand0 _ hf13, by simp, by simp⟩
end

/- List of the program. -/
section
open Go.RowKit
theorem enter_list (args : Array Value) (w : World) : (callFunc 78 args).run Tryz.prog w = .ok (.enter 78 args) w := by
 simp [go_sem]
theorem listT_pass (n : Nat) : (listT n).Ends fun r => r.2.2 = [] := fun v => by
 show Tr.Ends _ (if v = 2 then _ else _)
 by_cases hv : v = 2
 ·rw [if_pos hv]
  exact Tr.ends_map (Tr.ends_true (fun _ => rfl) _)
 ·rw [if_neg hv]; rfl
set_option maxRecDepth 100000 in
set_option maxHeartbeats 6400000 in
theorem List_any (D : Option Addr) (d : Nat) (n : Int) (ans : List Int) (w : World) (hd : Rd w (.int .u8) D d ans) (htab : Tab w) :
  Calls Tryz.prog 53 #[.int .i64 n, .slice D ans.length d] w (RetQstF w.heap.size w (listOf n ans)) := by
 have hn : ∀ W : World, Rd W (.int .i64) none 0 ([] : List Int) ∧ Nw w.heap.size none := fun W => ⟨Rd.nil_ W _, Nw.none_ _⟩
 have hmf : ∀ (fn : Fn) (first cap : Array Value) (w : World), (Instr.makeFunc fn first cap).run Tryz.prog w = .ok (.func fn first cap) w := fun _ _ _ _ => rfl
 obtain ⟨W, hW⟩ : ∃ W, W = ((w.alloc (.cells #[.int .i64 n] 3)).alloc (.cells #[.bool false, .slice none 0 0, .slice none 0 0, .slice none 0 0] 91)) := ⟨_, rfl⟩
 have hsz : W.heap.size = w.heap.size + 2 := by rw [hW]; simp
 have hfW : Fr [] w W := by rw [hW]; exact frx
 have hbN : Blk W w.heap.size 3 #[.int .i64 n] := by rw [hW]; exact (Blk.new w _ _ _ rfl).alloc _
 have hbQ : Blk W (w.heap.size + 1) 91 #[.bool false, .slice none 0 0, .slice none 0 0, .slice none 0 0] := by rw [hW]; exact Blk.new (w.alloc _) _ _ _ (by simp)
 have q0 := ((Blk.new w 3 #[.int .i64 n] _ rfl).alloc (.cells #[.bool false, .slice none 0 0, .slice none 0 0, .slice none 0 0] 91)).cell 0 rfl
 have HW := Lib.hid hW.symm
 by_cases h256 : 256 < n
 ·have hcb : decide (n > 256) = true := by simpa using h256
  have hR : Hid (listOf n ans = (qNone, 3)) := by show _ = _; unfold listOf; rw [if_pos h256]
  have qc0 := hbQ.cell 0 rfl
  have qc1 := hbQ.cell 1 rfl
  have qc2 := hbQ.cell 2 rfl
  have qc3 := hbQ.cell 3 rfl
  have qd0 := hbQ.frozen 0
  have qd1 := hbQ.frozen 1
  have qd2 := hbQ.frozen 2
  have qd3 := hbQ.frozen 3
  rw [hW] at qc0 qc1 qc2 qc3 qd0 qd1 qd2 qd3
  clear hW
  go_enter Tryz.func53, Tryz.ntmps53
  go_wp2_with fail
  rw [HW.out]
  refine bodyPost_ret (results_qst rfl _ _ (w.heap.size + 1) rfl hbQ) rfl ?_
  rw [hR.out]
  exact ⟨_, rfl, hfW, none, 0, none, 0, none, 0, rfl, hn _, hn _, hn _⟩
 ·have hcb : decide (n > 256) = false := by simpa using h256
  have hR0 : Hid (listOf n ans = qOf ans (listT n.toNat)) := by show _ = _; unfold listOf; rw [if_neg h256]
  obtain ⟨w3, hw3⟩ : ∃ w3, w3 = W.alloc (.cells #[.slice none 0 0] 53) := ⟨_, rfl⟩
  have hC3 : Blk w3 (w.heap.size + 1 + 1) 53 #[.slice none 0 0] := by rw [hw3]; exact Blk.new W _ _ _ (by omega)
  have hcd3 : CandAt w3 (w.heap.size + 1 + 1) (fun b => b < w3.heap.size) [] := ⟨none, 0, hC3, Rd.nil_ _ _, by simp⟩
  have hN3 : Blk w3 w.heap.size 3 #[.int .i64 n] := by rw [hw3]; exact hbN.alloc _
  have hB3 : Blk w3 (w.heap.size + 1) 91 #[.bool false, .slice none 0 0, .slice none 0 0, .slice none 0 0] := by rw [hw3]; exact hbQ.alloc _
  have hF3 : Fr [] w w3 := by rw [hw3]; exact hfW.alloc _
  have hz3 : w3.heap.size = w.heap.size + 3 := by rw [hw3]; simp; omega
  have HW3 : Hid (((w.alloc (.cells #[.int .i64 n] 3)).alloc (.cells #[.bool false, .slice none 0 0, .slice none 0 0, .slice none 0 0] 91)).alloc (.cells #[.slice none 0 0] 53) = w3) := by show _ = _; rw [hw3, hW]
  clear hw3 hW
  have hdr := hd.fr0 hF3
  go_enter Tryz.func53, Tryz.ntmps53
  go_wp2_with fail
  rw [HW3.out]
  by_cases h4 : 4096 < ans.length
  ·have hR : Hid (listOf n ans = (qNone, 3)) := by show _ = _; rw [hR0.out]; unfold qOf; rw [if_pos h4]
   go_wp2_with fail
   refine (run_limit _ D d ans _ hdr h4).mono ?_
   rintro e w5 ⟨rfl, hf5⟩
   obtain ⟨A5, c5, hb5, hr5, _⟩ := hcd3.fr0 hf5
   have k5 := hb5.cell 0 rfl
   have hB5 := hB3.fr hf5 (by simp)
   have hF5 := hF3.trans hf5
   go_wp2_with fail
   refine (quest_any none A5 0 c5 [] (([] : List Int)) false 3 _ (Rd.nil_ _ _) hr5 (by simp) w.heap.size hF5.size (Nw.none_ _)).mono ?_
   rintro e w6 ⟨vq, rfl, hf6, A1, a1, B1, b1, C1, c1, rfl, hq1, hq2, hq3⟩
   have hB6 := hB5.fr hf6 (by simp)
   have qc0 := hB6.cell 0 rfl
   have qc1 := hB6.cell 1 rfl
   have qc2 := hB6.cell 2 rfl
   have qc3 := hB6.cell 3 rfl
   have qd0 := hB6.frozen 0
   have qd1 := hB6.frozen 1
   have qd2 := hB6.frozen 2
   have qd3 := hB6.frozen 3
   go_wp2
   refine bodyPost_ret (results_qst rfl _ _ (w.heap.size + 1) rfl (hB6.four _ _ _ _)) rfl ?_
   rw [hR.out, show (qNone, (3 : Int)) = questOf [] (([] : List Int)) false 3 by simp [questOf]]
   exact qstF_ret (by omega) (hF5.trans hf6) hB6 hq1 hq2 hq3
  ·obtain ⟨full, hful⟩ : ∃ f, (listT n.toNat).go (askS ans) (0, []) = f := ⟨_, rfl⟩
   have hR : Hid (listOf n ans = finT ans full) := by show _ = _; rw [hR0.out, qOf_fin h4, hful]
   have hdo : ∀ w1, AtDo w3 w1 ans → Calls Tryz.prog 78 (#[.pointer (some ⟨w3.heap.size + 1 + 1, 0, none⟩)] ++ #[.pointer (some ⟨w.heap.size, 0, none⟩), .pointer (some ⟨w.heap.size + 1 + 1, 0, none⟩)]) w1
     (SetDo w1 (w3.heap.size + 1 + 1) (w3.heap.size + 1) (w.heap.size + 1 + 1) w3.heap.size (w3.heap.size + 3) ans ((listT n.toNat).go (askS ans) (0, []))) := fun w1 hat => by
    have hz := hat.size
    rw [← hz]
    have hb1 := hat.fr.size
    exact listdo_any (w3.heap.size + 1 + 1) (w3.heap.size + 1) w.heap.size (w.heap.size + 1 + 1) w3.heap.size ans w w1 n (hF3.trans hat.fr) htab (by omega) (by omega) (by omega) (by omega) (by omega) (by omega) (by omega) (by omega) hat.sk (hN3.fr hat.fr (by simp)) (hC3.fr hat.fr (by simp))
   have hpass : ∀ er kept pass u kn, full = .inr ((er, kept, pass), (u, kn)) → pass = [] := fun er kept pass u kn he => by
    rw [← hful] at he
    exact Tr.ends_go (P := fun r : Res => r.2.2 = []) _ _ (listT_pass n.toNat) he
   rw [hful] at hdo
   have HP := Lib.hid hpass
   have h4' : ans.length ≤ 4096 := by omega
   have hS : ∀ x ∈ [(w.heap.size + 1 + 1)], x < w3.heap.size := by simp; omega
   clear hful h4 hpass hR0
   rcases full with q | ⟨⟨er, kept, pass⟩, u, kn⟩
   ·go_wp2_with fail
    refine (run_ask w3 D d ans 78 _ _ hS _ q hdr h4' enter_list hdo).mono ?_
    rintro e w5 ⟨A3, c3, rfl, hr3, hf5, hnw, wd, ⟨cd, hcd, hcdl⟩, hfd⟩
    clear hdo
    have hcd5 := hcd.fr hfd (by simp; omega) (by intro x hx; simp at hx; subst hx; exact .inl (out_s (Nat.le_refl _) (by omega)))
    obtain ⟨A6, c6, hbk6, hcr6, _⟩ := hcd5
    have k5 := hbk6.cell 0 rfl
    have hB5 := hB3.fr hf5 (by simp)
    have hf05 : Fr [] w w5 := hF3.trans2 hf5 (by simp; omega)
    go_wp2_with fail
    refine (quest_any A3 A6 c3 c6 q cd false 0 _ hr3 hcr6 (by omega) w.heap.size hf05.size (hnw.mono hF3.size)).mono ?_
    rintro e w6 ⟨vq, rfl, hf6, A1, a1, B1, b1, C1, c1, rfl, hq1, hq2, hq3⟩
    have hB6 := hB5.fr hf6 (by simp)
    have qc0 := hB6.cell 0 rfl
    have qc1 := hB6.cell 1 rfl
    have qc2 := hB6.cell 2 rfl
    have qc3 := hB6.cell 3 rfl
    have qd0 := hB6.frozen 0
    have qd1 := hB6.frozen 1
    have qd2 := hB6.frozen 2
    have qd3 := hB6.frozen 3
    go_wp2
    refine bodyPost_ret (results_qst rfl _ _ (w.heap.size + 1) rfl (hB6.four _ _ _ _)) rfl ?_
    rw [hR.out, fin_ask (cd := cd) rfl]
    exact qstF_ret (by omega) (hf05.trans hf6) hB6 hq1 hq2 hq3
   ·obtain rfl := HP.out er kept pass u kn rfl
    clear HP
    go_wp2_with fail
    refine (run_end w3 D d ans 78 _ _ hS _ er u hdr h4' enter_list hdo).mono ?_
    rintro e w5 ⟨rfl, hf5, wd, ⟨cd, hcd, hcdl, hck⟩, hfd⟩
    clear hdo
    have hcd5 := hcd.fr hfd (by simp; omega) (by intro x hx; simp at hx; subst hx; exact .inl (out_s (Nat.le_refl _) (by omega)))
    obtain ⟨A6, c6, hbk6, hcr6, _⟩ := hcd5
    have k5 := hbk6.cell 0 rfl
    have hB5 := hB3.fr hf5 (by simp)
    have hf05 : Fr [] w w5 := hF3.trans2 hf5 (by simp; omega)
    have HFE := Lib.hid (fin_end (ans := ans) (kn := kn) (u := u) rfl hck)
    clear hck
    generalize hdn : decide (er = 0 ∧ ans.length ≤ u) = dn at *
    generalize her : (if er ≠ 0 then er else if u < ans.length then 8 else 0) = er2 at *
    have HD := Lib.hid hdn
    have HE := Lib.hid her
    clear hdn her
    go_wp2_with fail
    refine (quest_any none A6 0 c6 [] cd dn er2 _ (Rd.nil_ _ _) hcr6 (by omega) w.heap.size hf05.size (Nw.none_ _)).mono ?_
    rintro e w6 ⟨vq, rfl, hf6, A1, a1, B1, b1, C1, c1, rfl, hq1, hq2, hq3⟩
    have hB6 := hB5.fr hf6 (by simp)
    have qc0 := hB6.cell 0 rfl
    have qc1 := hB6.cell 1 rfl
    have qc2 := hB6.cell 2 rfl
    have qc3 := hB6.cell 3 rfl
    have qd0 := hB6.frozen 0
    have qd1 := hB6.frozen 1
    have qd2 := hB6.frozen 2
    have qd3 := hB6.frozen 3
    go_wp2
    refine bodyPost_ret (results_qst rfl _ _ (w.heap.size + 1) rfl (hB6.four _ _ _ _)) rfl ?_
    rw [hR.out, HFE.out]
    exact qstF_ret (by omega) (hf05.trans hf6) hB6 hq1 hq2 hq3
end

/- awake: the examples of the chapter about sets. -/
section
open Go.RowKit
theorem ex_chunks : chunksOf [1, 2, 3, 4, 5] 2 = [[1, 2], [3, 4, 5]] := by decide
theorem ex_l1 : listOf 4 [] = (⟨false, [0, 1, 2, 3], [], []⟩, 0) := by kernel_rfl
theorem ex_l2 : listOf 4 [2] = (⟨false, [0, 1], [], []⟩, 0) := by kernel_rfl
theorem ex_l3 : listOf 2 [2, 1, 1] = (⟨true, [], [0, 1], []⟩, 0) := by kernel_rfl
set_option maxRecDepth 100000 in
set_option maxHeartbeats 3200000 in
theorem awake_any (w : World) (htab : Tab w) : Calls Tryz.prog 24 #[] w (RetV w (.bool true)) := by
 go_enter Tryz.func24, Tryz.ntmps24
 go_wp2_with fail
 have r1 := Rd.lit w 3 (.int .i64) [1, 2, 3, 4, 5] _ rfl (by simp)
 refine (Chunks_any _ _ [1, 2, 3, 4, 5] 2 _ r1 (by simp)).mono ?_
 rw [ex_chunks]
 rintro e w1 ⟨v, rfl, hf1, hR⟩
 have hF1 : Fr [] w w1 := Fr.trans (Fr.alloc (Fr.refl _ _) _) hf1
 clear r1 hf1
 obtain ⟨SA, sc, rows, rfl, hrl, hO, hrow⟩ := id hR
 go_wp2_with fail
 refine (List_any none 0 4 [] _ (Rd.nil_ _ _) (htab.fr hF1)).mono ?_
 rw [ex_l1]
 rintro e w2 ⟨v2, rfl, hf2, A1, a1, B1, b1, C1, c1, rfl, ⟨hq1, _⟩, ⟨hq2, _⟩, hq3, _⟩
 have hF2 := hF1.trans hf2
 have hR2 := hR.fr0 hf2
 have hQ2 := (Blk.new w2 91 #[.bool false, .slice A1 4 a1, .slice B1 0 b1, .slice C1 0 c1] _ rfl).alloc (.cells #[.int .u8 2] 46)
 clear hR hf2 hF1 hO hrow
 go_wp2_with fail
 have r2 : Rd ((w2.alloc (.cells #[.bool false, .slice A1 4 a1, .slice B1 0 b1, .slice C1 0 c1] 91)).alloc (.cells #[.int .u8 2] 46)) (.int .u8) (some ⟨w2.heap.size + 1, 0, none⟩) 1 [2] := Rd.lit (w2.alloc (.cells #[.bool false, .slice A1 4 a1, .slice B1 0 b1, .slice C1 0 c1] 91)) 46 (.int .u8) [2] _ (by simp) (by simp)
 have hFa : Fr [] w2 ((w2.alloc (.cells #[.bool false, .slice A1 4 a1, .slice B1 0 b1, .slice C1 0 c1] 91)).alloc (.cells #[.int .u8 2] 46)) := frx
 refine (List_any _ _ 4 [2] _ r2 (htab.fr (hF2.trans hFa))).mono ?_
 rw [ex_l2]
 rintro e w3 ⟨v3, rfl, hf3, A2, a2, B2, b2, C2, c2, rfl, ⟨hp1, _⟩, ⟨hp2, _⟩, hp3, _⟩
 have hF3 := (hF2.trans hFa).trans hf3
 have hR3 := (hR2.fr0 hFa).fr0 hf3
 have hx1 := (hq1.fr0 hFa).fr0 hf3
 have hQ3 := (hQ2.fr hf3 (by simp)).alloc (.cells #[.bool false, .slice A2 2 a2, .slice B2 0 b2, .slice C2 0 c2] 91) |>.alloc (.cells #[.int .u8 2, .int .u8 1, .int .u8 1] 46)
 have hP3 := (Blk.new w3 91 #[.bool false, .slice A2 2 a2, .slice B2 0 b2, .slice C2 0 c2] _ rfl).alloc (.cells #[.int .u8 2, .int .u8 1, .int .u8 1] 46)
 clear hR2 hf3 hF2 hFa hQ2 r2 hq1 hq2 hq3
 go_wp2_with fail
 have r3 : Rd ((w3.alloc (.cells #[.bool false, .slice A2 2 a2, .slice B2 0 b2, .slice C2 0 c2] 91)).alloc (.cells #[.int .u8 2, .int .u8 1, .int .u8 1] 46)) (.int .u8) (some ⟨w3.heap.size + 1, 0, none⟩) 3 [2, 1, 1] := Rd.lit (w3.alloc (.cells #[.bool false, .slice A2 2 a2, .slice B2 0 b2, .slice C2 0 c2] 91)) 46 (.int .u8) [2, 1, 1] _ (by simp) (by simp)
 have hFb : Fr [] w3 ((w3.alloc (.cells #[.bool false, .slice A2 2 a2, .slice B2 0 b2, .slice C2 0 c2] 91)).alloc (.cells #[.int .u8 2, .int .u8 1, .int .u8 1] 46)) := frx
 refine (List_any _ _ 2 [2, 1, 1] _ r3 (htab.fr (hF3.trans hFb))).mono ?_
 rw [ex_l3]
 rintro e w4 ⟨v4, rfl, hf4, A3, a3, B3, b3, C3, c3, rfl, ⟨hs1, _⟩, ⟨hs2, _⟩, hs3, _⟩
 have hFc : Fr [] w4 (w4.alloc (.cells #[.bool true, .slice A3 0 a3, .slice B3 2 b3, .slice C3 0 c3] 91)) := frx
 have hf4c := (hFb.trans hf4).trans hFc
 have hF4 := hF3.trans hf4c
 have hR4 := hR3.fr0 hf4c
 have hx2 := hx1.fr0 hf4c
 have hx3 := hp1.fr0 hf4c
 have hx4 := hs2.fr0 hFc
 have hQ4 := (hQ3.fr hf4 (by simp)).alloc (.cells #[.bool true, .slice A3 0 a3, .slice B3 2 b3, .slice C3 0 c3] 91)
 have hP4 := (hP3.fr hf4 (by simp)).alloc (.cells #[.bool true, .slice A3 0 a3, .slice B3 2 b3, .slice C3 0 c3] 91)
 have hS4 := Blk.new w4 91 #[.bool true, .slice A3 0 a3, .slice B3 2 b3, .slice C3 0 c3] _ rfl
 obtain ⟨SA4, sc4, rows4, hv4, hrl, hO, hrow⟩ := hR4
 injection hv4 with hva hvb hvc
 subst hva hvc
 obtain ⟨D1, d1, hd1, ho1⟩ := hrow 0 [1, 2] rfl
 obtain ⟨D2, d2, hd2, ho2⟩ := hrow 1 [3, 4, 5] rfl
 obtain ⟨g, rfl, _, _⟩ := own_some hO (by simp)
 have m0 := (hO.cellAt 0 (by simp)).trans (show _ = some (Value.slice D1 2 d1) by rw [List.getElem?_map, hd1]; first | done | rfl)
 have m1 := (hO.cellAt 1 (by simp)).trans (show _ = some (Value.slice D2 3 d2) by rw [List.getElem?_map, hd2]; first | done | rfl)
 have y1 : Rd _ (.int .i64) D1 d1 [1, 2] := (Rd.of_own ho1).2
 have y2 : Rd _ (.int .i64) D2 d2 [3, 4, 5] := (Rd.of_own ho2).2
 have z1 := hQ4.lt
 have z2 := hP4.lt
 have z3 := hS4.lt
 have q0 := hQ4.cell 0 rfl
 have q1 := hQ4.cell 1 rfl
 have p1 := hP4.cell 1 rfl
 have s0 := hS4.cell 0 rfl
 have s2 := hS4.cell 2 rfl
 clear hx1 hQ3 hP3 r3 hFb hF3 hf4 hs1 hs2 hs3 hp1 hp2 hp3 hR3 hO hrow ho1 ho2 hd1 hd2 hFc hf4c
 go_wp2_with fail
 have hz : (w4.alloc (.cells #[.bool true, .slice A3 0 a3, .slice B3 2 b3, .slice C3 0 c3] 91)).heap.size = w4.heap.size + 1 := by simp
 generalize (w4.alloc (.cells #[.bool true, .slice A3 0 a3, .slice B3 2 b3, .slice C3 0 c3] 91)) = W4 at *
 have HZ := Lib.hid hz
 have z4 : w4.heap.size < W4.heap.size + 1 := by omega
 have z5 : w4.heap.size < W4.heap.size + 1 + 1 := by omega
 have z6 : w4.heap.size < W4.heap.size := by omega
 clear hz
 refine (lawints_any D1 _ d1 2 [1, 2] [1, 2] _ (y1.fr0 frx) (Rd.lit W4 3 (.int .i64) [1, 2] _ HZ.out.symm (by simp))).mono ?_
 rintro e w5 ⟨rfl, n5, rfl⟩
 go_wp2_with fail
 refine (lawints_any D2 _ d2 3 [3, 4, 5] [3, 4, 5] _ (y2.fr0 frx) ((Rd.lit (W4.alloc (.cells #[.int .i64 1, .int .i64 2] 3)) 3 (.int .i64) [3, 4, 5] _ (by simp) (by simp)).fr0 frx)).mono ?_
 rintro e w6 ⟨rfl, n6, rfl⟩
 go_wp2_with fail
 refine (lawints_any A2 _ a2 2 [0, 1] [0, 1] _ (hx3.fr0 frx) ((Rd.lit ((W4.alloc (.cells #[.int .i64 1, .int .i64 2] 3)).alloc (.cells #[.int .i64 3, .int .i64 4, .int .i64 5] 3)) 3 (.int .i64) [0, 1] _ (by simp) (by simp)).fr0 frx)).mono ?_
 rintro e w7 ⟨rfl, n7, rfl⟩
 go_wp2_with fail
 refine (lawints_any B3 _ b3 2 [0, 1] [0, 1] _ (hx4.fr0 frx) ((Rd.lit (((W4.alloc (.cells #[.int .i64 1, .int .i64 2] 3)).alloc (.cells #[.int .i64 3, .int .i64 4, .int .i64 5] 3)).alloc (.cells #[.int .i64 0, .int .i64 1] 3)) 3 (.int .i64) [0, 1] _ (by simp) (by simp)).fr0 frx)).mono ?_
 rintro e w8 ⟨rfl, n8, rfl⟩
 go_wp2
 go_ret
 exact ⟨by simp, hF4.trans frx⟩
end

end Go.Proofs.YtippadnbngcjlaaGreatDoor
