/- Texts of this seat, one behind the other: LAsk, Srch, LOnce, LSurp. -/
import Derived.Test.YtjpbmbonccenfaaDoorZSurp32
import Derived.Test.YtjpbmbonccenfaaDoorZSurp34
import Derived.Test.YtjpbmbonccenfaaDoorZSurp30
import Derived.Test.YtjpbmbonccenfaaDoorZSurp26
import Derived.Test.YtjpbmbonccenfaaDoorZSurp35
import Derived.Test.YtjpbmbonccenfaaDoorZSurp29
import Derived.Test.YtjpbmbonccenfaaDoorZSurp31
import Derived.Test.YtjpbmbonccenfaaDoorZSurp28
/- ask of the law: one of the searches for sets. -/
namespace Go.Proofs.YtjpbmbonccenfaaDoor
open Go.RowKit
set_option linter.unusedVariables false

theorem rss_free {w : World} {B n c : Nat} {A : Option Addr} (h : w.ownsRow B 22 1 (.slice A n c) n (List.replicate n (.slice none 0 0))) : Rss w A c (List.replicate n []) := by
  have h' : w.ownsRow B 22 1 (.slice A n c) n ((List.replicate n ((none, 0, 0) : Option Addr × Nat × Nat)).map encSl) := by simpa [encSl] using h
  obtain ⟨_, hr⟩ := Rd.of_own h'
  refine ⟨by simpa using hr.le, hr.cap, fun h0 => ?_⟩
  obtain ⟨b, off, hA, hc⟩ := hr.at0 (by simpa using h0)
  refine ⟨b, off, hA, fun k l hl => ⟨none, 0, ?_, ?_⟩⟩
  · have hk := (List.getElem?_eq_some_iff.1 hl).1
    have he := (List.getElem?_eq_some_iff.1 hl).2
    simp at he
    subst he
    have := hc k (none, 0, 0) (by rw [List.getElem?_replicate, if_pos (by simpa using hk)])
    exact this
  · have he := (List.getElem?_eq_some_iff.1 hl).2
    simp at he
    subst he
    exact Rd.nil_ _ _

set_option maxRecDepth 100000 in
set_option maxHeartbeats 3200000 in
theorem lask_any (wh : Nat) (n start : Int) (D : Option Addr) (f : Nat) (ans : List Int) (w : World) (hd : Rd w (.int .u8) D f ans) (htab : Tab w) (hn : n ≤ 256) :
    Calls Tryd.prog 58 #[.int .u8 wh, .int .i64 n, .int .i64 start, .slice D ans.length f] w (RetQstF w.heap.size w (lawOf wh n start ans)) := by
  obtain ⟨W, hW⟩ : ∃ W, W = w.alloc (.cells #[.bool false, .slice none 0 0, .slice none 0 0, .slice none 0 0] 34) := ⟨_, rfl⟩
  have hfW : Fr [] w W := by rw [hW]; exact (Fr.refl _ _).alloc _
  have hbQ : Blk W w.heap.size 34 #[.bool false, .slice none 0 0, .slice none 0 0, .slice none 0 0] := by rw [hW]; exact Blk.new _ _ _ _ rfl
  have HW := Lib.hid hW.symm
  have HZW : Hid (W.heap.size = w.heap.size + 1) := by show _ = _; rw [hW]; simp
  clear hW
  have hz := hfW.size
  by_cases h0 : wh = 0
  · subst h0
    obtain ⟨r, hr⟩ : ∃ r, r = listOf n ans := ⟨_, rfl⟩
    have hR : Hid (lawOf 0 n start ans = r) := hr.symm
    have HR := Lib.hid hr
    clear hr
    go_enter Tryd.func58, Tryd.ntmps58
    go_wp2_with fail
    rw [HW.out]
    refine (List_any D f n ans W (hd.fr0 hfW) (htab.fr hfW)).mono ?_
    rw [← HR.out]
    rintro e w6 ⟨vq, rfl, hf6, A1, a1, B1, b1, C1, c1, rfl, ⟨hq1, n1⟩, ⟨hq2, n2⟩, hq3, n3⟩
    have hB6 := hbQ.fr hf6 (by simp)
    have qc0 := hB6.cell 0 rfl
    have qc1 := hB6.cell 1 rfl
    have qc2 := hB6.cell 2 rfl
    have qc3 := hB6.cell 3 rfl
    have qd0 := hB6.frozen 0
    have qd1 := hB6.frozen 1
    have qd2 := hB6.frozen 2
    have qd3 := hB6.frozen 3
    go_wp2
    refine bodyPost_ret (results_qst rfl _ _ w.heap.size rfl (hB6.four _ _ _ _)) rfl ?_
    rw [hR.out]
    exact qstF_ret (Nat.le_refl _) (hfW.trans hf6) hB6 ⟨hq1, n1.mono hz⟩ ⟨hq2, n2.mono hz⟩ ⟨hq3, n3.mono hz⟩
  · have b0 : ((wh : Int) == 0) = false := by rw [beq_eq_false_iff_ne]; omega
    by_cases h1 : wh = 1
    · subst h1
      obtain ⟨r, hr⟩ : ∃ r, r = countedOf n start ans := ⟨_, rfl⟩
      have hR : Hid (lawOf 1 n start ans = r) := hr.symm
      have HR := Lib.hid hr
      clear hr
      go_enter Tryd.func58, Tryd.ntmps58
      go_wp2_with fail
      rw [HW.out]
      refine (Counted_any D f n start ans W (hd.fr0 hfW) (htab.fr hfW)).mono ?_
      rw [← HR.out]
      rintro e w6 ⟨vq, rfl, hf6, A1, a1, B1, b1, C1, c1, rfl, ⟨hq1, n1⟩, ⟨hq2, n2⟩, hq3, n3⟩
      have hB6 := hbQ.fr hf6 (by simp)
      have qc0 := hB6.cell 0 rfl
      have qc1 := hB6.cell 1 rfl
      have qc2 := hB6.cell 2 rfl
      have qc3 := hB6.cell 3 rfl
      have qd0 := hB6.frozen 0
      have qd1 := hB6.frozen 1
      have qd2 := hB6.frozen 2
      have qd3 := hB6.frozen 3
      go_wp2
      refine bodyPost_ret (results_qst rfl _ _ w.heap.size rfl (hB6.four _ _ _ _)) rfl ?_
      rw [hR.out]
      exact qstF_ret (Nat.le_refl _) (hfW.trans hf6) hB6 ⟨hq1, n1.mono hz⟩ ⟨hq2, n2.mono hz⟩ ⟨hq3, n3.mono hz⟩
    · have b1 : ((wh : Int) == 1) = false := by rw [beq_eq_false_iff_ne]; omega
      by_cases h2 : wh = 2
      · subst h2
        obtain ⟨r, hr⟩ : ∃ r, r = differenceOf n ans := ⟨_, rfl⟩
        have hR : Hid (lawOf 2 n start ans = r) := hr.symm
        have HR := Lib.hid hr
        clear hr
        go_enter Tryd.func58, Tryd.ntmps58
        go_wp2_with fail
        rw [HW.out]
        refine (Difference_any D f n ans W (hd.fr0 hfW) (htab.fr hfW)).mono ?_
        rw [← HR.out]
        rintro e w6 ⟨vq, rfl, hf6, A1, a1, B1, b1, C1, c1, rfl, ⟨hq1, n1⟩, ⟨hq2, n2⟩, hq3, n3⟩
        have hB6 := hbQ.fr hf6 (by simp)
        have qc0 := hB6.cell 0 rfl
        have qc1 := hB6.cell 1 rfl
        have qc2 := hB6.cell 2 rfl
        have qc3 := hB6.cell 3 rfl
        have qd0 := hB6.frozen 0
        have qd1 := hB6.frozen 1
        have qd2 := hB6.frozen 2
        have qd3 := hB6.frozen 3
        go_wp2
        refine bodyPost_ret (results_qst rfl _ _ w.heap.size rfl (hB6.four _ _ _ _)) rfl ?_
        rw [hR.out]
        exact qstF_ret (Nat.le_refl _) (hfW.trans hf6) hB6 ⟨hq1, n1.mono hz⟩ ⟨hq2, n2.mono hz⟩ ⟨hq3, n3.mono hz⟩
      · have b2 : ((wh : Int) == 2) = false := by rw [beq_eq_false_iff_ne]; omega
        have hR : Hid (lawOf wh n start ans = changesOf (List.replicate n.toNat []) ans) := by show _ = _; unfold lawOf; rw [if_neg h0, if_neg h1, if_neg h2]
        have hmx : max n 0 = ((n.toNat : Nat) : Int) := by omega
        have hm : n.toNat ≤ 256 := by omega
        clear h0 h1 h2
        generalize n.toNat = m at *
        go_enter Tryd.func58, Tryd.ntmps58
        go_wp2_with (at_make; refine wpList_makeN rfl _ _ _ rfl elemSl rfl m rfl rfl (by omega) ?_; intro w7 hown7 hg7)
        rw [HW.out] at hg7 hown7
        have hL := rss_free hown7
        have hf7 : Fr [] W w7 := (Fr.refl _ W).grown hg7 (by simp)
        have hF7 := hfW.trans hf7
        have hB7 := hbQ.fr hf7 (by simp)
        have hz7 := hF7.size
        obtain ⟨r, hr⟩ : ∃ r, r = changesOf (List.replicate m []) ans := ⟨_, rfl⟩
        rw [← hr] at hR
        have HR := Lib.hid hr
        have hch := Changes_any _ D m f (List.replicate m []) ans w7 hL (hd.fr0 hF7) (htab.fr hF7)
        rw [← hr, List.length_replicate, HZW.out] at hch
        clear hr hL hown7 hg7
        go_wp2_with fail
        refine hch.mono ?_
        rintro e w6 ⟨vq, rfl, hf6, A1, a1, B1, b1, C1, c1, rfl, ⟨hq1, n1⟩, ⟨hq2, n2⟩, hq3, n3⟩
        have hB6 := hB7.fr hf6 (by simp)
        have qc0 := hB6.cell 0 rfl
        have qc1 := hB6.cell 1 rfl
        have qc2 := hB6.cell 2 rfl
        have qc3 := hB6.cell 3 rfl
        have qd0 := hB6.frozen 0
        have qd1 := hB6.frozen 1
        have qd2 := hB6.frozen 2
        have qd3 := hB6.frozen 3
        go_wp2
        refine bodyPost_ret (results_qst rfl _ _ w.heap.size rfl (hB6.four _ _ _ _)) rfl ?_
        rw [hR.out]
        exact qstF_ret (Nat.le_refl _) (hF7.trans hf6) hB6 ⟨hq1, n1.mono hz7⟩ ⟨hq2, n2.mono hz7⟩ ⟨hq3, n3.mono hz7⟩
end Go.Proofs.YtjpbmbonccenfaaDoor

/- searched of the law: a search is asked to its end. -/
namespace Go.Proofs.YtjpbmbonccenfaaDoor
open Go.RowKit
set_option linter.unusedVariables false

/-- A slice of its own whose cells are slices that read as lists; they lie neither in its block nor in u's. -/
def RowsR (W : World) (B : Nat) (v u : Value) (L : List (List Int)) : Prop :=
  ∃ (SA : Option Addr) (sc : Nat) (rows : List (Option Addr × Nat × Nat)), v = .slice SA L.length sc ∧ rows.length = L.length ∧ W.ownsRow B 22 1 v L.length (rows.map encSl) ∧
    ∀ (j : Nat) (l : List Int), L[j]? = some l → ∃ A c, rows[j]? = some (A, l.length, c) ∧ Rd W (.int .i64) A c l ∧ (0 < l.length → ∀ a, A = some a → v.ownBlock ≠ some a.block ∧ u.ownBlock ≠ some a.block)
section
variable {W W' : World} {B B' m : Nat} {v v' u u' : Value} {L : List (List Int)} {ys : List Value}
theorem RowsR.nil_ (W : World) (B : Nat) (u : Value) : RowsR W B (.slice none 0 0) u [] := ⟨none, 0, [], rfl, rfl, World.ownsRow_nil W B _ 1, fun j l h => by simp at h⟩
theorem RowsR.fr0 (h : RowsR W B v u L) (hf : Fr [] W W') : RowsR W' B v u L := by
  obtain ⟨SA, sc, rows, hv, hl, ho, hr⟩ := h
  refine ⟨SA, sc, rows, hv, hl, own_fr ho hf (by simp), fun j l hl => ?_⟩
  obtain ⟨A, c, h1, h2, h3⟩ := hr j l hl
  exact ⟨A, c, h1, h2.fr0 hf, h3⟩
theorem RowsR.grow (h : RowsR W B v u L) (hu : W.ownsRow B' 39 1 u m ys) (hg : W.grownBy W' u.ownBlock) (hat : u'.ownBlock = u.ownBlock ∨ u'.ownBlock = some W.heap.size) : RowsR W' B v u' L := by
  obtain ⟨SA, sc, rows, hv, hl, ho, hr⟩ := h
  refine ⟨SA, sc, rows, hv, hl, own_fr ho (frOfGrown hg) (fun k hk hm => own_ne_own ho hu (by decide) k hk (by simpa using hm)), fun j l hl => ?_⟩
  obtain ⟨A, c, h1, h2, h3⟩ := hr j l hl
  refine ⟨A, c, h1, h2.fr (frOfGrown hg) (fun h0 a ha hm => (h3 h0 a ha).2 (by simpa using hm)), fun h0 a ha => ⟨(h3 h0 a ha).1, ?_⟩⟩
  rcases hat with e | e
  · rw [e]; exact (h3 h0 a ha).2
  · rw [e]
    have := h2.lt h0 a ha
    intro h
    injection h with h
    omega
theorem RowsR.snoc {A SA : Option Addr} {c sc sn : Nat} {l : List Int} {rows : List (Option Addr × Nat × Nat)} (hrows : ∀ (j : Nat) (l : List Int), L[j]? = some l → ∃ A c, rows[j]? = some (A, l.length, c) ∧ Rd W (.int .i64) A c l ∧ (0 < l.length → ∀ a, A = some a → v.ownBlock ≠ some a.block ∧ u.ownBlock ≠ some a.block))
    (hl : Rd W (.int .i64) A c l) (hla : 0 < l.length → ∀ a, A = some a → v.ownBlock ≠ some a.block ∧ u.ownBlock ≠ some a.block) (hsn : sn = L.length + 1)
    (hrl : rows.length = L.length) (hg : W.grownBy W' v.ownBlock) (hat : (Value.slice SA sn sc).ownBlock = v.ownBlock ∨ (Value.slice SA sn sc).ownBlock = some W.heap.size)
    (ho2 : W'.ownsRow B 22 1 (.slice SA sn sc) sn (rows.map encSl ++ [(A, l.length, c)].map encSl)) : RowsR W' B (.slice SA sn sc) u (L ++ [l]) := by
  subst hsn
  have key : ∀ {A : Option Addr} {c : Nat} {l : List Int}, Rd W (.int .i64) A c l → (0 < l.length → ∀ a, A = some a → v.ownBlock ≠ some a.block ∧ u.ownBlock ≠ some a.block) →
      Rd W' (.int .i64) A c l ∧ (0 < l.length → ∀ a, A = some a → (Value.slice SA (L.length + 1) sc).ownBlock ≠ some a.block ∧ u.ownBlock ≠ some a.block) := fun {A c l} h1 h2 => by
    refine ⟨h1.fr (frOfGrown hg) (fun h0 a ha hm => (h2 h0 a ha).1 (by simpa using hm)), fun h0 a ha => ⟨?_, (h2 h0 a ha).2⟩⟩
    rcases hat with e | e
    · rw [e]; exact (h2 h0 a ha).1
    · rw [e]
      have := h1.lt h0 a ha
      intro h
      injection h with h
      omega
  refine ⟨SA, sc, rows ++ [(A, l.length, c)], by simp, by simp [hrl], by simpa using ho2, fun j l' hj => ?_⟩
  by_cases hlt : j < L.length
  · rw [List.getElem?_append_left hlt] at hj
    obtain ⟨A', c', h1, h2, h3⟩ := hrows j l' hj
    obtain ⟨k1, k2⟩ := key h2 h3
    exact ⟨A', c', by rw [List.getElem?_append_left (by omega)]; exact h1, k1, k2⟩
  · have hj2 := (List.getElem?_eq_some_iff.1 hj).1
    simp at hj2
    obtain rfl : j = L.length := by omega
    simp at hj
    subst hj
    obtain ⟨k1, k2⟩ := key hl hla
    exact ⟨A, c, by rw [← hrl]; simp, k1, k2⟩
theorem RowsR.farQ {g : Nat} {b0 : Bool} {A1 A2 A3 : Option Addr} {n1 n2 n3 m1 m2 m3 : Nat} (h : RowsR W B v u L) (hb : Blk W g 34 #[.bool b0, .slice A1 n1 m1, .slice A2 n2 m2, .slice A3 n3 m3]) (hf : Fr [g] W W') : RowsR W' B v u L := by
  obtain ⟨SA, sc, rows, hv, hl, ho, hr⟩ := h
  refine ⟨SA, sc, rows, hv, hl, own_fr ho hf (fun k hk hm => own_ne_blk ho hb (by decide) k hk (by simpa using hm)), fun j l hl => ?_⟩
  obtain ⟨A, c, h1, h2, h3⟩ := hr j l hl
  exact ⟨A, c, h1, h2.fr hf (fun h0 a ha hm => h2.apartQ hb h0 a ha (by simpa using hm)), h3⟩
theorem RowsR.rss (h : RowsR W B v u L) : ∃ SA sc, v = .slice SA L.length sc ∧ Rss W SA sc L := by
  obtain ⟨SA, sc, rows, rfl, hl, ho, hr⟩ := h
  obtain ⟨_, hrd⟩ := Rd.of_own ho
  refine ⟨SA, sc, rfl, by rw [← hl]; exact hrd.le, hrd.cap, fun h0 => ?_⟩
  obtain ⟨b, off, hA, hc⟩ := hrd.at0 (by omega)
  refine ⟨b, off, hA, fun k l hk => ?_⟩
  obtain ⟨A', c', h1, h2, _⟩ := hr k l hk
  exact ⟨A', c', hc k _ h1, h2⟩
end
/-- A quest in a result's cell, and two slots. -/
theorem results_srch {fn : Func} {p t t' : Tmp} (h : fn.results = #[.cell p 34, .tmp t, .tmp t']) (tmps : Array Value) (w : World) (g : Nat) {a0 a1 a2 a3 : Value} (hp : tmps.getD p undef = .pointer (some ⟨g, 0, none⟩)) (hb : Blk w g 34 #[a0, a1, a2, a3]) :
    (results fn tmps).run Tryd.prog w = .ok (.tuple #[.agg #[a0, a1, a2, a3], tmps.getD t undef, tmps.getD t' undef]) w := by
  have c0 := hb.cell 0 rfl
  have c1 := hb.cell 1 rfl
  have c2 := hb.cell 2 rfl
  have c3 := hb.cell 3 rfl
  simp only [Array.getD_eq_getD_getElem?] at hp
  simp [results, h, go_sem, hp, c0, c1, c2, c3]

/-- Between two questions. -/
def SrInv (w : World) (T : List (List Int)) (say : List Int → Int) (ov : Array Value) (t : Nat) (v1 v2 : Value) (wr : World) : Prop :=
  ∃ (ans : List Int) (A : Option Addr) (c : Nat), Hid (ans = (T.take ans.length).map say) ∧ ans.length ≤ T.length ∧ T.length < ans.length + t ∧ v2 = .slice A ans.length c ∧
    wr.ownsRow w.heap.size 39 1 (.slice A ans.length c) ans.length (ans.map (.int .u8)) ∧ RowsR wr w.heap.size v1 v2 (T.take ans.length) ∧
    Blk wr w.heap.size 30 ov ∧ Blk wr (w.heap.size + 1) 34 #[.bool false, .slice none 0 0, .slice none 0 0, .slice none 0 0] ∧ Fr [] w wr
/-- What searched returns. -/
def RetSrch (w : World) (T : List (List Int)) (r : Qst × Int) (e : Ending) (w' : World) : Prop :=
  ∃ v SA sc, e = .returned (.tuple #[v, .slice SA T.length sc, .int .i64 r.2]) ∧ Fr [] w w' ∧ QstIs w' v r.1 ∧ Rss w' SA sc T

set_option maxRecDepth 100000 in
set_option maxHeartbeats 6400000 in
theorem searched_any (wh : Nat) (n start : Int) (v : Value) (o : Orc) (w : World) (hov : OrcIs w v o) (hg : greatO o = false) (hn : n ≤ 12) (htab : Tab w) :
    Calls Tryd.prog 56 #[.int .u8 wh, v, .int .i64 n, .int .i64 start] w (RetSrch w (lawAsks wh n.toNat start (sayO o)) (lawRes wh n.toNat start (sayO o))) := by
  have ht : ∀ q, told (sayO o q) = sayO o q := sayO_told o
  have hal := lawAsks_le (wh := wh) (start := start) (o := sayO o) (n := n.toNat) (by omega)
  have HAT : Hid (∀ k q, (lawAsks wh n.toNat start (sayO o))[k]? = some q → lawOf wh n start (((lawAsks wh n.toNat start (sayO o)).take k).map (sayO o)) = (⟨false, q, [], []⟩, 0) ∧ q.length ≤ 256) :=
    fun k q hq => ⟨lawAsks_at hn ht hq, by have := (set_inR (lawAsks_set (by omega) (List.mem_of_getElem? hq))).2; omega⟩
  have HEND := Lib.hid (lawAsks_end (wh := wh) (start := start) hn ht)
  obtain ⟨kp, hres⟩ : ∃ kp : Qst × Int, lawRes wh n.toNat start (sayO o) = kp ∧ ((∃ kept pass, kp = (⟨true, [], kept, pass⟩, 0)) ∨ kp = (⟨false, [], [], []⟩, 7)) := by
    refine ⟨_, rfl, ?_⟩
    rcases lawRes_is (wh := wh) (start := start) (n := n.toNat) (by omega) ht with ⟨kept, pass, _, h⟩ | ⟨_, h⟩
    · exact .inl ⟨kept, pass, h⟩
    · exact .inr h
  rw [hres.1] at HEND ⊢
  have hkp := hres.2
  clear hres ht
  generalize lawAsks wh n.toNat start (sayO o) = T at *
  obtain ⟨N, nn, B, b, rfl, hN, hB, hs, hlo⟩ := id hov
  have HG := Lib.hid hg
  have HOV := Lib.hid hov
  clear hg hov
  obtain ⟨W, hW⟩ : ∃ W, W = (w.alloc (.cells #[.slice N o.need.length nn, .slice B o.bar.length b, .int .u64 o.salt, .int .u8 o.loose] 30)).alloc (.cells #[.bool false, .slice none 0 0, .slice none 0 0, .slice none 0 0] 34) := ⟨_, rfl⟩
  have hI : SrInv w T (sayO o) #[.slice N o.need.length nn, .slice B o.bar.length b, .int .u64 o.salt, .int .u8 o.loose] (T.length + 1) (.slice none 0 0) (.slice none 0 0) W := by
    refine ⟨[], none, 0, by show _ = _; simp, Nat.zero_le _, by simp, rfl, World.ownsRow_nil _ _ _ _, RowsR.nil_ _ _ _, ?_, ?_, ?_⟩
    · rw [hW]; exact (Blk.new w _ _ _ rfl).alloc _
    · rw [hW]; exact Blk.new _ _ _ _ (by simp)
    · rw [hW]; exact (by repeat (first | exact Fr.refl _ _ | assumption | apply Fr.drewN | apply Fr.drew | apply Fr.alloc | refine Fr.setCell ?_ (by simp) _))
  have HW := Lib.hid hW.symm
  clear hW
  go_enter Tryd.func56, Tryd.ntmps56
  go_wp2_with fail
  rw [HW.out]
  clear HW
  go_loopg [11, 12] (T.length + 1) (SrInv w T (sayO o) #[.slice N o.need.length nn, .slice B o.bar.length b, .int .u64 o.salt, .int .u8 o.loose])
  case atStart => exact hI
  case round =>
    clear hI
    obtain ⟨ans, A5, c5, hans, hle, hgt, rfl, ho5, hR5, hb5, hQ5, hF5⟩ := hrel
    obtain ⟨t, rfl⟩ : ∃ t, gk = t + 1 := ⟨gk - 1, by omega⟩
    have hr5 : Rd wr (.int .u8) A5 c5 ans := (Rd.of_own ho5).2
    have hlen : ans.length ≤ 4096 := by omega
    rcases hq : T[ans.length]? with _ | q
    · have hTl : T.length = ans.length := by have := List.getElem?_eq_none_iff.1 hq; omega
      have hall : ans = T.map (sayO o) := by
        have h1 := hans.out
        rw [List.take_of_length_le (by omega)] at h1
        exact h1
      have hres := HEND.out
      rw [← hall] at hres
      rw [List.take_of_length_le (by omega)] at hR5
      have HRES := Lib.hid hres
      clear hq hgt hres hall hTl HEND HAT hans
      go_wp2_with fail
      refine (lask_any wh n start A5 c5 ans _ hr5 (htab.fr hF5) (by omega)).mono ?_
      rw [HRES.out]
      rcases hkp with ⟨kept, pass, rfl⟩ | rfl
      · rintro e w6 ⟨v6, rfl, hf6, A1, a1, B1, b1, C1, c1, rfl, ⟨hq1, _⟩, ⟨hq2, _⟩, hq3, _⟩
        obtain ⟨W6, hW6⟩ : ∃ W6, W6 = w6.alloc (.cells #[.bool true, .slice A1 0 a1, .slice B1 kept.length b1, .slice C1 pass.length c1] 34) := ⟨_, rfl⟩
        have hQ : Blk W6 w6.heap.size 34 #[.bool true, .slice A1 0 a1, .slice B1 kept.length b1, .slice C1 pass.length c1] := by rw [hW6]; exact Blk.new _ _ _ _ rfl
        have hf66 : Fr [] w6 W6 := by rw [hW6]; exact (Fr.refl _ _).alloc _
        have hQ6 := (hQ5.fr hf6 (by simp)).fr hf66 (by simp)
        have hF6 := (hF5.trans hf6).trans hf66
        have hR6 := (hR5.fr0 hf6).fr0 hf66
        have g1 := hq1.fr0 hf66
        have g2 := hq2.fr0 hf66
        have g3 := hq3.fr0 hf66
        have HW6 := Lib.hid hW6.symm
        have m0 := hQ.cell 0 rfl
        have m1 := hQ.cell 1 rfl
        have m2 := hQ.cell 2 rfl
        have m3 := hQ.cell 3 rfl
        have qc0 := hQ6.cell 0 rfl
        have qc1 := hQ6.cell 1 rfl
        have qc2 := hQ6.cell 2 rfl
        have qc3 := hQ6.cell 3 rfl
        have qd0 := hQ6.frozen 0
        have qd1 := hQ6.frozen 1
        have qd2 := hQ6.frozen 2
        have qd3 := hQ6.frozen 3
        rw [hW6] at m0 m1 m2 m3 qc0 qc1 qc2 qc3 qd0 qd1 qd2 qd3
        clear hW6
        obtain ⟨SA, sc, hv, _⟩ := hR6.rss
        subst hv
        go_wp2_with fail
        rw [HW6.out]
        refine bodyPost_ret (results_srch rfl _ _ (w.heap.size + 1) rfl (hQ6.four _ _ _ _)) rfl ?_
        obtain ⟨SA', sc', hv', hrss⟩ := (hR6.farQ hQ6 (fr_four (g := w.heap.size + 1) (Fr.refl [w.heap.size + 1] _) (.inl (by simp)) _ _ _ _)).rss
        injection hv' with e1 e2 e3
        subst e1 e3
        exact ⟨_, _, _, rfl, fr_four (g := w.heap.size + 1) hF6 (.inr (by omega)) _ _ _ _, ⟨A1, a1, B1, b1, C1, c1, rfl, g1.four (g1.apartQ hQ6) _ _ _ _, g2.four (g2.apartQ hQ6) _ _ _ _, g3.four (g3.apartQ hQ6) _ _ _ _⟩, hrss⟩
      · rintro e w6 ⟨v6, rfl, hf6, A1, a1, B1, b1, C1, c1, rfl, ⟨hq1, _⟩, ⟨hq2, _⟩, hq3, _⟩
        obtain ⟨W6, hW6⟩ : ∃ W6, W6 = w6.alloc (.cells #[.bool false, .slice A1 0 a1, .slice B1 0 b1, .slice C1 0 c1] 34) := ⟨_, rfl⟩
        have hQ : Blk W6 w6.heap.size 34 #[.bool false, .slice A1 0 a1, .slice B1 0 b1, .slice C1 0 c1] := by rw [hW6]; exact Blk.new _ _ _ _ rfl
        have hf66 : Fr [] w6 W6 := by rw [hW6]; exact (Fr.refl _ _).alloc _
        have hQ6 := (hQ5.fr hf6 (by simp)).fr hf66 (by simp)
        have hF6 := (hF5.trans hf6).trans hf66
        have hR6 := (hR5.fr0 hf6).fr0 hf66
        have g1 := hq1.fr0 hf66
        have g2 := hq2.fr0 hf66
        have g3 := hq3.fr0 hf66
        have HW6 := Lib.hid hW6.symm
        have m0 := hQ.cell 0 rfl
        have m1 := hQ.cell 1 rfl
        have m2 := hQ.cell 2 rfl
        have m3 := hQ.cell 3 rfl
        have qc0 := hQ6.cell 0 rfl
        have qc1 := hQ6.cell 1 rfl
        have qc2 := hQ6.cell 2 rfl
        have qc3 := hQ6.cell 3 rfl
        have qd0 := hQ6.frozen 0
        have qd1 := hQ6.frozen 1
        have qd2 := hQ6.frozen 2
        have qd3 := hQ6.frozen 3
        rw [hW6] at m0 m1 m2 m3 qc0 qc1 qc2 qc3 qd0 qd1 qd2 qd3
        clear hW6
        obtain ⟨SA, sc, hv, _⟩ := hR6.rss
        subst hv
        go_wp2_with fail
        rw [HW6.out]
        refine bodyPost_ret (results_srch rfl _ _ (w.heap.size + 1) rfl (hQ6.four _ _ _ _)) rfl ?_
        obtain ⟨SA', sc', hv', hrss⟩ := (hR6.farQ hQ6 (fr_four (g := w.heap.size + 1) (Fr.refl [w.heap.size + 1] _) (.inl (by simp)) _ _ _ _)).rss
        injection hv' with e1 e2 e3
        subst e1 e3
        exact ⟨_, _, _, rfl, fr_four (g := w.heap.size + 1) hF6 (.inr (by omega)) _ _ _ _, ⟨A1, a1, B1, b1, C1, c1, rfl, g1.four (g1.apartQ hQ6) _ _ _ _, g2.four (g2.apartQ hQ6) _ _ _ _, g3.four (g3.apartQ hQ6) _ _ _ _⟩, hrss⟩
    · obtain ⟨hres, hql⟩ := HAT.out _ _ hq
      rw [← hans.out] at hres
      have HRES := Lib.hid hres
      have HQ := Lib.hid hq
      have hlt2 : ans.length < T.length := (List.getElem?_eq_some_iff.1 hq).1
      have HTK : Hid (T.take (ans.length + 1) = T.take ans.length ++ [q]) := by show _ = _; rw [List.take_add_one, hq]; rfl
      have hTl : Hid ((T.take ans.length).length = ans.length) := by show _ = _; rw [List.length_take]; omega
      have hnx := Lib.hid (ans_next hans HQ)
      clear hres hq HEND HAT hans
      generalize T.take ans.length = Tk at *
      go_wp2_with fail
      refine (lask_any wh n start A5 c5 ans _ hr5 (htab.fr hF5) (by omega)).mono ?_
      rw [HRES.out]
      rintro e w6 ⟨v6, rfl, hf6, A1, a1, B1, b1, C1, c1, rfl, ⟨hq1, hn1⟩, ⟨hq2, _⟩, hq3, _⟩
      obtain ⟨W6, hW6⟩ : ∃ W6, W6 = w6.alloc (.cells #[.bool false, .slice A1 q.length a1, .slice B1 0 b1, .slice C1 0 c1] 34) := ⟨_, rfl⟩
      have hQ : Blk W6 w6.heap.size 34 #[.bool false, .slice A1 q.length a1, .slice B1 0 b1, .slice C1 0 c1] := by rw [hW6]; exact Blk.new _ _ _ _ rfl
      have hf66 : Fr [] w6 W6 := by rw [hW6]; exact (Fr.refl _ _).alloc _
      have hfa := hf6.trans hf66
      have HZ6 : Hid (W6.heap.size = w6.heap.size + 1) := by show _ = _; rw [hW6]; simp
      have g1 := hq1.fr0 hf66
      have HW6 := Lib.hid hW6.symm
      have m0 := hQ.cell 0 rfl
      have m1 := hQ.cell 1 rfl
      rw [hW6] at m0 m1
      clear hW6
      have hla : 0 < q.length → ∀ a, A1 = some a → (Value.slice A5 ans.length c5).ownBlock ≠ some a.block := fun h0 a ha hk => by
        have h1 := hn1 a ha
        have h2 := (ho5.lt _ hk).2
        omega
      obtain ⟨SA, sc, rows, hv, hrl, hown, hrows⟩ := id hR5
      subst hv
      have hla2 : 0 < q.length → ∀ a, A1 = some a → (Value.slice SA Tk.length sc).ownBlock ≠ some a.block := fun h0 a ha hk => by
        have h1 := hn1 a ha
        have h2 := (hown.lt _ hk).2
        omega
      have hR6 := (hR5.fr0 hfa)
      obtain ⟨SA6, sc6, rows6, hv6, hrl6, hown6, hrows6⟩ := hR6
      injection hv6 with e1 e2 e3
      subst e1 e3
      clear e2 hR5 hown hrows hrl rows
      have hb6 := hb5.fr hfa (by simp)
      have hQ6 := hQ5.fr hfa (by simp)
      have hF6 := hF5.trans hfa
      have ho6 := own_fr ho5 hfa (by simp)
      clear hq1 hq2 hq3 hf6 hf66 hb5 hQ5 hF5 ho5 hr5 hn1
      -- the cell of the literal
      obtain ⟨W7, hW7⟩ : ∃ W7, W7 = W6.alloc (.cells #[.slice A1 q.length a1] 22) := ⟨_, rfl⟩
      have hf67 : Fr [] W6 W7 := by rw [hW7]; exact (Fr.refl _ _).alloc _
      have hb7 := hb6.fr hf67 (by simp)
      have hQ7 := hQ6.fr hf67 (by simp)
      have hq7 := hQ.fr hf67 (by simp)
      have hF7 := hF6.trans hf67
      have ho7 := own_fr ho6 hf67 (by simp)
      have hown7 := own_fr hown6 hf67 (by simp)
      have g7 := g1.fr0 hf67
      have hrows7 : ∀ (j : Nat) (l : List Int), Tk[j]? = some l → ∃ A c, rows6[j]? = some (A, l.length, c) ∧ Rd W7 (.int .i64) A c l ∧ (0 < l.length → ∀ a, A = some a → (Value.slice SA Tk.length sc).ownBlock ≠ some a.block ∧ (Value.slice A5 ans.length c5).ownBlock ≠ some a.block) := fun j l hj => by
        obtain ⟨A, c, x1, x2, x3⟩ := hrows6 j l hj
        exact ⟨A, c, x1, x2.fr0 hf67, x3⟩
      have hlit : Rd (W6.alloc (.cells #[.slice A1 q.length a1] 22)) encSl (some ⟨w6.heap.size + 1, 0, none⟩) 1 [(A1, q.length, a1)] := by
        have := Rd.one W6 22 encSl (A1, q.length, a1)
        rw [HZ6.out] at this
        exact this
      have HAP : Hid (∀ (A8 : Option Addr) (c8 sn : Nat) (W8 : World), W8.ownsRow w.heap.size 22 1 (.slice A8 sn c8) sn (rows6.map encSl ++ [(A1, q.length, a1)].map encSl) → W7.grownBy W8 (Value.slice SA Tk.length sc).ownBlock →
          ((Value.slice A8 sn c8).ownBlock = (Value.slice SA Tk.length sc).ownBlock ∨ (Value.slice A8 sn c8).ownBlock = some W7.heap.size) → sn = Tk.length + 1 →
          RowsR W8 w.heap.size (.slice A8 sn c8) (.slice A5 ans.length c5) (Tk ++ [q]) ∧ Blk W8 w.heap.size 30 #[.slice N o.need.length nn, .slice B o.bar.length b, .int .u64 o.salt, .int .u8 o.loose] ∧
          Blk W8 (w.heap.size + 1) 34 #[.bool false, .slice none 0 0, .slice none 0 0, .slice none 0 0] ∧ Blk W8 w6.heap.size 34 #[.bool false, .slice A1 q.length a1, .slice B1 0 b1, .slice C1 0 c1] ∧ Fr [] w W8 ∧
          W8.ownsRow w.heap.size 39 1 (.slice A5 ans.length c5) ans.length (ans.map (.int .u8)) ∧ Rd W8 (.int .i64) A1 a1 q) := fun A8 c8 sn W8 h1 h2 h3 h4 => by
        refine ⟨RowsR.snoc hrows7 g7 (fun h0 a ha => ⟨hla2 h0 a ha, hla h0 a ha⟩) h4 hrl6 h2 h3 h1, ?_, ?_, ?_, ?_, ?_, ?_⟩
        · exact hb7.grown h2 (fun hk => own_ne_blk hown7 hb7 (by decide) w.heap.size hk.symm rfl)
        · exact hQ7.grown h2 (fun hk => own_ne_blk hown7 hQ7 (by decide) (w.heap.size + 1) hk.symm rfl)
        · exact hq7.grown h2 (fun hk => own_ne_blk hown7 hq7 (by decide) w6.heap.size hk.symm rfl)
        · exact hF7.app hown7 (Nat.le_refl _) h2
        · exact own_fr ho7 (frOfGrown h2) (fun k hk hm => own_ne_own ho7 hown7 (by decide) k hk (by simpa using hm))
        · exact g7.fr (frOfGrown h2) (fun h0 a ha hm => hla2 h0 a ha (by simpa using hm))
      have HOWN7 := Lib.hid hown7
      have HLIT := Lib.hid hlit
      have HRL := Lib.hid hrl6
      have hbB : (Tk.length + [(A1, q.length, a1)].length) * 24 ≤ 140737488355328 := by have := hTl.out; simp; omega
      have hbW : w.heap.size ≤ W7.heap.size := hF7.size
      rw [hW7] at HAP hbW HOWN7
      have hz6 := hf67.size
      clear hW7 hb7 hQ7 hq7 hF7 ho7 hown7 g7 hrows7 hlit hrl6 hrows6 hown6 ho6 hF6 hQ6 hb6 g1 hQ hf67
      rw [← HW6.out] at HAP hbW HOWN7 HLIT
      have hn1' := HTK
      go_wp2_with (at_builtin; go_loud (refine wpList_append_rd rfl (.tmp 35) (.tmp 38) _ rfl elemSl (.slice SA Tk.length sc) (rows6.map encSl) rfl HOWN7.out _ 1 [(A1, q.length, a1)] encSl rfl HLIT.out (fun _ => rfl) hbB hbW ?_; intro A8 c8 w8 hown8 hg8 hat8; obtain ⟨hR8, hb8, hQ8, hq8, hF8, ho8, g8⟩ := HAP.out A8 c8 _ w8 hown8 hg8 hat8 (by simp); have e0 := hb8.cell 0 rfl; have e1 := hb8.cell 1 rfl; have e2 := hb8.cell 2 rfl; have e3 := hb8.cell 3 rfl; have m1' := hq8.cell 1 rfl))
      refine (Say_any _ o A1 a1 q _ (HOV.out.fr0 hF8) g8 HG.out).mono ?_
      rintro e w9 ⟨rfl, hf9⟩
      have hR9 := hR8.fr0 hf9
      have hb9 := hb8.fr hf9 (by simp)
      have hQ9 := hQ8.fr hf9 (by simp)
      have hF9 := hF8.trans hf9
      have ho9 := own_fr ho8 hf9 (by simp)
      clear hR8 hb8 hQ8 hq8 hF8 ho8 g8 e0 e1 e2 e3 m1' HAP HOWN7 HLIT hbW hbB m0 m1 hn1'
      generalize sayO o q = sq at *
      have HO9 := Lib.hid (ho9.alloc (.cells #[.int .u8 sq] 39))
      have HR9 := Lib.hid (Rd.one w9 39 (.int .u8) sq)
      have HRR := Lib.hid (hR9.fr0 (((Fr.refl [] w9).alloc (.cells #[.int .u8 sq] 39))))
      clear ho9 hR9
      have hws := hF9.size
      have hbB : (ans.length + [sq].length) * 1 ≤ 140737488355328 := by simp; omega
      have hbW : w.heap.size ≤ (w9.alloc (.cells #[.int .u8 sq] 39)).heap.size := Nat.le_trans hws (by simp)
      go_wp2_with (at_builtin; go_loud (refine wpList_append_rd rfl (.tmp 40) (.tmp 45) _ rfl elemVe (.slice A5 ans.length c5) (ans.map (.int .u8)) rfl HO9.out (some ⟨w9.heap.size, 0, none⟩) 1 [sq] (.int .u8) rfl HR9.out one_u8 hbB hbW ?_; intro A10 c10 w10 ho10 hg10 hat10))
      go_roundg t
      case measure => omega
      case rel =>
        have hF10 : Fr [] w w10 := (hF9.alloc _).app HO9.out (Nat.le_refl _) hg10
        have hbA := (hb9.alloc (.cells #[.int .u8 sq] 39)).grown hg10 (fun hk => own_ne_blk HO9.out (hb9.alloc (.cells #[.int .u8 sq] 39)) (by decide) w.heap.size hk.symm rfl)
        have hQA := (hQ9.alloc (.cells #[.int .u8 sq] 39)).grown hg10 (fun hk => own_ne_blk HO9.out (hQ9.alloc (.cells #[.int .u8 sq] 39)) (by decide) (w.heap.size + 1) hk.symm rfl)
        have hrr := HRR.out.grow HO9.out hg10 hat10
        have htk : T.take (ans ++ [sq]).length = Tk ++ [q] := by rw [List.length_append]; exact HTK.out
        exact ⟨ans ++ [sq], A10, c10, hnx, by simp; omega, by simp; omega, by simp, by simpa using ho10, by rw [htk]; exact hrr, hbA, hQA, hF10⟩
end Go.Proofs.YtjpbmbonccenfaaDoor

/- ReduceOnce: the walk. -/
namespace Go.Proofs.YtjpbmbonccenfaaDoor
open Go.RowKit
set_option linter.unusedVariables false
set_option linter.unusedSimpArgs false

theorem u8_in {n : Int} (h : (Lit.int .u8 n).wf = true) : 0 ≤ n ∧ n ≤ 255 := by
  simp only [Lit.wf, Bool.and_eq_true, decide_eq_true_eq] at h
  exact h
/-- What is told of a search that is asked to its end. -/
theorem law_once {wh : Nat} {n start : Int} {o : List Int → Int} (hn : n ≤ 12) (ho : ∀ q, told (o q) = o q) : (lawRes wh n.toNat start o).2 = 0 ∨ (lawRes wh n.toNat start o).2 = 7 := by
  rcases lawRes_is (wh := wh) (start := start) (n := n.toNat) (by omega) ho with ⟨kept, pass, _, h⟩ | ⟨_, h⟩ <;> rw [h]
  · exact .inl rfl
  · exact .inr rfl
theorem nodup_ne {T : List (List Int)} (h : T.Nodup) {i k : Nat} {p q : List Int} (hi : T[i]? = some p) (hk : T[k]? = some q) (hlt : k < i) : p ≠ q := by
  rintro rfl
  obtain ⟨h1, e1⟩ := List.getElem?_eq_some_iff.1 hi
  obtain ⟨h2, e2⟩ := List.getElem?_eq_some_iff.1 hk
  exact (List.pairwise_iff_getElem.1 h) k i h2 h1 hlt (by rw [e1, e2])
/-- The answers gathered, the asked ones read in the world W0. -/
def AnsInv (W0 : World) (T : List (List Int)) (say : List Int → Int) (k : Nat) (v : Value) (wr : World) : Prop :=
  ∃ (ans : List Int) (A : Option Addr) (c : Nat), Hid (ans = (T.take k).map say) ∧ ans.length = k ∧ v = .slice A ans.length c ∧ wr.ownsRow W0.heap.size 39 1 (.slice A ans.length c) ans.length (ans.map (.int .u8)) ∧ Fr [] W0 wr
theorem ans_more {T : List (List Int)} {say : List Int → Int} {ans : List Int} {k : Nat} {q : List Int} (h : Hid (ans = (T.take k).map say)) (hq : Hid (T[k]? = some q)) : ans ++ [say q] = (T.take (k + 1)).map say := by
  rw [List.take_add_one, hq.out, List.map_append, ← h.out]
  rfl

set_option maxRecDepth 100000 in
set_option maxHeartbeats 6400000 in
theorem LOnce_any (v : Value) (o : Orc) (n start which cut : Int) (w : World) (hov : OrcIs w v o) (hwr : 0 ≤ which ∧ which ≤ 255) (htab : Tab w) :
    Calls Tryd.prog 12 #[v, .int .i64 n, .int .i64 start, .int .u8 which, .int .i64 cut] w (RetV w (.bool true)) := by
  obtain ⟨N, nn, B, b, rfl, hN, hB, hs, hlo⟩ := id hov
  have HOV := Lib.hid hov
  clear hov
  obtain ⟨W, hW⟩ : ∃ W, W = w.alloc (.cells #[.slice N o.need.length nn, .slice B o.bar.length b, .int .u64 o.salt, .int .u8 o.loose] 30) := ⟨_, rfl⟩
  have hFW : Fr [] w W := by rw [hW]; exact (Fr.refl _ _).alloc _
  have hbk : Blk W w.heap.size 30 #[.slice N o.need.length nn, .slice B o.bar.length b, .int .u64 o.salt, .int .u8 o.loose] := by rw [hW]; exact Blk.new _ _ _ _ rfl
  have HW := Lib.hid hW.symm
  clear hW
  by_cases h9 : 8 < n
  · have d9 : decide (8 < n) = true := by simpa using h9
    go_enter Tryd.func12, Tryd.ntmps12
    go_wp2_with fail
    rw [HW.out]
    refine (awake_any _ (htab.fr hFW)).mono ?_
    rintro e w2 ⟨rfl, hf2⟩
    go_wp2
    go_ret
    exact ⟨rfl, hFW.trans hf2⟩
  have d9 : decide (8 < n) = false := by simpa using h9
  have hn9 : n ≤ 8 := by omega
  clear h9
  have hgc := Great_any _ o W (HOV.out.fr0 hFW)
  have e0 := hbk.cell 0 rfl
  have e1 := hbk.cell 1 rfl
  have e2 := hbk.cell 2 rfl
  have e3 := hbk.cell 3 rfl
  rw [← HW.out] at e0 e1 e2 e3
  rcases hg : greatO o with _ | _
  rotate_left
  · rw [hg] at hgc
    clear hg
    go_enter Tryd.func12, Tryd.ntmps12
    go_wp2_with fail
    rw [HW.out]
    refine hgc.mono ?_
    rintro e w1 ⟨rfl, hf1⟩
    go_wp2_with fail
    refine (awake_any _ (htab.fr (hFW.trans hf1))).mono ?_
    rintro e w3 ⟨rfl, hf3⟩
    go_wp2
    go_ret
    exact ⟨rfl, (hFW.trans hf1).trans hf3⟩
  have HG := Lib.hid hg
  rw [hg] at hgc
  clear hg
  obtain ⟨x, rfl⟩ : ∃ x : Nat, which = x := ⟨which.toNat, by omega⟩
  have hw1 : (x : Int) % 4 = ((x % 4 : Nat) : Int) := by omega
  go_enter Tryd.func12, Tryd.ntmps12
  go_wp2_with fail
  rw [HW.out]
  refine hgc.mono ?_
  rintro e w1 ⟨rfl, hf1⟩
  have hF1 := hFW.trans hf1
  have hb1 := hbk.fr hf1 (by simp)
  clear hgc hf1 hbk hFW e0 e1 e2 e3 HW
  have hS := searched_any (x % 4) n start _ o w1 (HOV.out.fr0 hF1) HG.out (by omega) (htab.fr hF1)
  have HER := Lib.hid (law_once (wh := x % 4) (n := n) (start := start) (by omega) (sayO_told o))
  have HND := Lib.hid (lawAsks_nodup (wh := x % 4) (n := n.toNat) (start := start) (o := sayO o))
  have HPOS := lawAsks_pos (wh := x % 4) (n := n.toNat) (start := start) (o := sayO o)
  have HLE := lawAsks_le (wh := x % 4) (n := n.toNat) (start := start) (o := sayO o) (by omega)
  have HAT : Hid (∀ k q, (lawAsks (x % 4) n.toNat start (sayO o))[k]? = some q → lawOf (x % 4) n start (((lawAsks (x % 4) n.toNat start (sayO o)).take k).map (sayO o)) = (⟨false, q, [], []⟩, 0)) :=
    fun k q hq => lawAsks_at (by omega) (sayO_told o) hq
  generalize lawRes (x % 4) n.toNat start (sayO o) = r at *
  generalize lawAsks (x % 4) n.toNat start (sayO o) = T at *
  generalize x % 4 = wh at *
  obtain ⟨q0, er⟩ := r
  have her : er = 0 ∨ er = 7 := HER.out
  clear HER
  have e0 := hb1.cell 0 rfl
  have e1 := hb1.cell 1 rfl
  have e2 := hb1.cell 2 rfl
  have e3 := hb1.cell 3 rfl
  go_wp2_with fail
  refine hS.mono ?_
  rintro e w6 ⟨v6, S6, s6, rfl, hf6, ⟨A1, a1, B1, b1, C1, c1, rfl, hq1, hq2, hq3⟩, hT⟩
  obtain ⟨W6, hW6⟩ : ∃ W6, W6 = w6.alloc (.cells #[.bool q0.done, .slice A1 q0.ask.length a1, .slice B1 q0.kept.length b1, .slice C1 q0.pass.length c1] 34) := ⟨_, rfl⟩
  have hf66 : Fr [] w6 W6 := by rw [hW6]; exact (Fr.refl _ _).alloc _
  have hfa := hf6.trans hf66
  have hb6 := hb1.fr hfa (by simp)
  have hF6 := hF1.trans hfa
  have hT6 := hT.fr0 hf66
  have HW6 := Lib.hid hW6.symm
  clear hW6 hq1 hq2 hq3 hT e0 e1 e2 e3 hS hF1 hb1 hf6 hf66 hfa
  have hne : ¬ T.length = 0 := by omega
  obtain ⟨bT, oT, rfl, _⟩ := hT6.at0 HPOS
  rcases her with rfl | rfl
  · go_wp2_with fail
    rw [HW6.out]
    go_loopw [15] (fun i wr' => ∃ k : Nat, k ≤ T.length ∧ i = .int .i64 k ∧ Fr [] W6 wr') (fun i _ => T.length - (intOf i).toNat)
    case atStart => exact ⟨0, Nat.zero_le _, rfl, Fr.refl _ _⟩
    case round =>
      obtain ⟨i, hi, rfl, hf⟩ := hrel
      by_cases hlt : i < T.length
      · go_wp2_with fail
        go_loopw [16] (fun j wr' => ∃ k : Nat, k ≤ i ∧ j = .int .i64 k ∧ Fr [] W6 wr') (fun j _ => i - (intOf j).toNat)
        case atStart => exact ⟨0, Nat.zero_le _, rfl, hf⟩
        case round =>
          obtain ⟨k, hk, rfl, hf⟩ := hrel
          by_cases hlk : k < i
          · obtain ⟨b7, o7, p, A7, c7, hbx, hp, hc7, hr7⟩ := (hT6.fr0 hf).at_ hlt
            injection hbx with hbx
            injection hbx with hb7 ho7 _
            subst hb7 ho7
            obtain ⟨b8, o8, q, A8, c8, hbx, hq, hc8, hr8⟩ := (hT6.fr0 hf).at_ (show k < T.length by omega)
            injection hbx with hbx
            injection hbx with hb8 ho8 _
            subst hb8 ho8
            have hkT : k < T.length := by omega
            have hpq := nodup_ne HND.out hp.out hq.out hlk
            have hdl : decide (p = q) = false := by simpa using hpq
            clear hpq
            go_wp2_with fail
            go_region_held3 (fun w' => w'.cell? ⟨bT, oT + i, none⟩ = some (.slice A7 p.length c7) ∧ w'.cell? ⟨bT, oT + k, none⟩ = some (.slice A8 q.length c8))
              (first
                | go_keep
                | exact ⟨hFa.cell hc7 (by simp), hFa.cell hc8 (by simp)⟩)
              (first
                | (go_at_call 18; refine (lawints_any A7 A8 c7 c8 p q _ (hr7.fr0 (by repeat (first | exact Fr.refl _ _ | assumption | apply Fr.drewN | apply Fr.drew | apply Fr.alloc | refine Fr.setCell ?_ (by simp) _))) (hr8.fr0 (by repeat (first | exact Fr.refl _ _ | assumption | apply Fr.drewN | apply Fr.drew | apply Fr.alloc | refine Fr.setCell ?_ (by simp) _)))).mono ?_; rw [hdl]; rintro e wa ⟨rfl, na, rfl⟩; have hFa : Fr [] wr (wr.drew.drewN na) := (by repeat (first | exact Fr.refl _ _ | assumption | apply Fr.drewN | apply Fr.drew | apply Fr.alloc | refine Fr.setCell ?_ (by simp) _))))
            go_wp2_with fail
            go_roundw
            case rel => exact ⟨k + 1, by omega, by go_num, hf.trans ((Fr.refl _ _).drewN _)⟩
            case measure => simp [intOf]; omega
          · go_wp2_with fail
            go_roundw
            case rel => exact ⟨i + 1, by omega, by go_num, hf⟩
            case measure => simp [intOf]; omega
      · have hFr := hF6.trans hf
        have hbr := hb6.fr hf (by simp)
        have hTr := hT6.fr0 hf
        have hL1 : ((T.length : Int) == 0) = false := by rw [beq_eq_false_iff_ne]; omega
        have hL2 : (T.length == 0) = false := by rw [beq_eq_false_iff_ne]; omega
        go_wp2_with fail
        have htp : (0 : Int) < (T.length : Int) := by omega
        have h1 := Int.lt_tmod_of_pos cut htp
        have h2 := Int.tmod_lt_of_pos cut htp
        have hwr : wrap64 (cut.tmod (T.length : Int) + (T.length : Int)) = cut.tmod (T.length : Int) + (T.length : Int) := IntWalk.wrap64_in _ (by omega)
        obtain ⟨ct, hct, hctl⟩ : ∃ ct : Nat, (wrap64 (cut.tmod (T.length : Int) + (T.length : Int))).tmod (T.length : Int) = ct ∧ ct < T.length := by
          rw [hwr]
          have h3 := Int.tmod_nonneg (a := cut.tmod (T.length : Int) + (T.length : Int)) (T.length : Int) (by omega)
          have h4 := Int.tmod_lt_of_pos (cut.tmod (T.length : Int) + (T.length : Int)) htp
          exact ⟨((cut.tmod (T.length : Int) + (T.length : Int)).tmod (T.length : Int)).toNat, by omega, by omega⟩
        rw [hct]
        clear hct hwr h1 h2 htp
        obtain ⟨W0, hW0⟩ : ∃ W0, W0 = wr := ⟨_, rfl⟩
        subst hW0
        go_loopw [17, 18] (fun v i wr' => ∃ k : Nat, k ≤ ct ∧ i = .int .i64 k ∧ AnsInv W0 T (sayO o) k v wr') (fun _ i _ => ct - (intOf i).toNat)
        case atStart => exact ⟨0, Nat.zero_le _, rfl, [], none, 0, by show _ = _; simp, rfl, rfl, World.ownsRow_nil _ _ _ _, Fr.refl _ _⟩
        case round =>
          obtain ⟨k, hk, rfl, ans, A5, c5, hans, hal, rfl, ho5, hf5⟩ := hrel
          have hF5 := hFr.trans hf5
          have hb5 := hbr.fr hf5 (by simp)
          have hT5 := hTr.fr0 hf5
          by_cases hlk : k < ct
          · obtain ⟨b7, o7, q, A7, c7, hbx, hq, hc7, hr7⟩ := hTr.at_ (show k < T.length by omega)
            injection hbx with hbx
            injection hbx with hb7 ho7 _
            subst hb7 ho7
            have hc0 := hc7
            have hc7 := hf5.cell hc0 (by simp)
            have hr7 := hr7.fr0 hf5
            have hkT : k < T.length := by omega
            have hnx := Lib.hid (ans_more hans hq)
            have HAL := Lib.hid hal
            have hal4 : ans.length ≤ 4096 := by omega
            have e0 := hb5.cell 0 rfl
            have e1 := hb5.cell 1 rfl
            have e2 := hb5.cell 2 rfl
            have e3 := hb5.cell 3 rfl
            have HOW := Lib.hid ho5
            have hws := hf5.size
            clear hans hal ho5
            go_wp2_with fail
            go_region_held3 (fun w' => w'.cell? ⟨w.heap.size, 0, none⟩ = some (.slice N o.need.length nn) ∧ w'.cell? ⟨w.heap.size, 1, none⟩ = some (.slice B o.bar.length b) ∧ w'.cell? ⟨w.heap.size, 2, none⟩ = some (.int .u64 o.salt) ∧ w'.cell? ⟨w.heap.size, 3, none⟩ = some (.int .u8 o.loose) ∧ w'.cell? ⟨bT, oT + k, none⟩ = some (.slice A7 q.length c7))
              (first
                | go_keep
                | exact ⟨hFa.cell e0 (by simp), hFa.cell e1 (by simp), hFa.cell e2 (by simp), hFa.cell e3 (by simp), hFa.cell hc7 (by simp)⟩
                | exact ⟨hFb.cell (hbr.cell 0 rfl) (by simp), hFb.cell (hbr.cell 1 rfl) (by simp), hFb.cell (hbr.cell 2 rfl) (by simp), hFb.cell (hbr.cell 3 rfl) (by simp), hFb.cell hc0 (by simp)⟩)
              (first
                | (go_at_call 23; refine (Say_any _ o A7 c7 q _ (HOV.out.fr0 (Fr.trans hF5 (by repeat (first | exact Fr.refl _ _ | assumption | apply Fr.drewN | apply Fr.drew | apply Fr.alloc | refine Fr.setCell ?_ (by simp) _)))) (hr7.fr0 (by repeat (first | exact Fr.refl _ _ | assumption | apply Fr.drewN | apply Fr.drew | apply Fr.alloc | refine Fr.setCell ?_ (by simp) _))) HG.out).mono ?_; rintro e w8 ⟨rfl, hfa8⟩; have hFa : Fr [] wr w8 := (Fr.trans (by repeat (first | exact Fr.refl _ _ | assumption | apply Fr.drewN | apply Fr.drew | apply Fr.alloc | refine Fr.setCell ?_ (by simp) _)) hfa8))
                | (refine step_append_rd rfl (.tmp 83) (.tmp 90) _ rfl elemVe (.slice A5 ans.length c5) (ans.map (.int .u8)) rfl ((own_fr HOW.out hFa (by simp)).alloc _) (some ⟨w8.heap.size, 0, none⟩) 1 [sayO o q] (.int .u8) rfl (Rd.one w8 39 (.int .u8) (sayO o q)) one_u8 (by simp; omega) (Nat.le_trans (Nat.le_trans hws hFa.size) (by simp)) ?_; intro A10 c10 w10 hown10 hg10 hat10; have hFb : Fr [] W0 w10 := ((hf5.trans hFa).alloc (.cells #[.int .u8 (sayO o q)] 39)).app ((own_fr HOW.out hFa (by simp)).alloc _) (Nat.le_refl _) hg10))
            go_wp2_with fail
            go_roundw
            case rel => exact ⟨k + 1, by omega, by go_num, ans ++ [sayO o q], A10, c10, hnx, by simp [HAL.out], by simp, by simpa using hown10, hFb⟩
            case measure => simp [intOf]; omega
          · obtain rfl : k = ct := by omega
            obtain ⟨b7, o7, q, A7, c7, hbx, hq, hc0, hr70⟩ := hTr.at_ hctl
            injection hbx with hbx
            injection hbx with hb7 ho7 _
            subst hb7 ho7
            have hres := HAT.out k q hq.out
            rw [← hans.out] at hres
            have HRES := Lib.hid hres
            have hr5 : Rd wr (.int .u8) A5 c5 ans := (Rd.of_own ho5).2
            have HAL := Lib.hid hal
            clear hres hans hal
            go_wp2_with fail
            refine (lask_any wh n start A5 c5 ans _ hr5 (htab.fr hF5) (by omega)).mono ?_
            rw [HRES.out]
            rintro e w7 ⟨v7, rfl, hf7, A9, a9, B9, b9, C9, c9, rfl, ⟨hq9, _⟩, ⟨_, _⟩, _, _⟩
            obtain ⟨W7, hW7⟩ : ∃ W7, W7 = w7.alloc (.cells #[.bool false, .slice A9 q.length a9, .slice B9 0 b9, .slice C9 0 c9] 34) := ⟨_, rfl⟩
            have hQ : Blk W7 w7.heap.size 34 #[.bool false, .slice A9 q.length a9, .slice B9 0 b9, .slice C9 0 c9] := by rw [hW7]; exact Blk.new _ _ _ _ rfl
            have hf77 : Fr [] w7 W7 := by rw [hW7]; exact (Fr.refl _ _).alloc _
            have hf07 := hf5.trans (hf7.trans hf77)
            have hF7 := hFr.trans hf07
            have hc7 := hf07.cell hc0 (by simp)
            have hr7 := hr70.fr0 hf07
            have hr9 := hq9.fr0 hf77
            have q0c := hQ.cell 0 rfl
            have q1c := hQ.cell 1 rfl
            have HW7 := Lib.hid hW7.symm
            clear hW7 hq hq9 hf7 hf77 hr5 ho5
            go_wp2_with fail
            rw [HW7.out]
            have dl : decide (q = q) = true := by simp
            have DL := Lib.hid dl
            clear dl
            go_region_held3 (fun w' => w'.cell? ⟨w7.heap.size, 0, none⟩ = some (.bool false) ∧ w'.cell? ⟨w7.heap.size, 1, none⟩ = some (.slice A9 q.length a9) ∧ w'.cell? ⟨bT, oT + k, none⟩ = some (.slice A7 q.length c7))
              (first
                | go_keep
                | exact ⟨hFa.cell q0c (by simp), hFa.cell q1c (by simp), hFa.cell hc7 (by simp)⟩
                | exact ⟨hFb.cell q0c (by simp), hFb.cell q1c (by simp), hFb.cell hc7 (by simp)⟩)
              (first
                | (go_at_call 18; refine (lawints_any A9 A7 a9 c7 q q _ (hr9.fr0 (by repeat (first | exact Fr.refl _ _ | assumption | apply Fr.drewN | apply Fr.drew | apply Fr.alloc | refine Fr.setCell ?_ (by simp) _))) (hr7.fr0 (by repeat (first | exact Fr.refl _ _ | assumption | apply Fr.drewN | apply Fr.drew | apply Fr.alloc | refine Fr.setCell ?_ (by simp) _)))).mono ?_; rw [DL.out]; rintro e wa ⟨rfl, na, rfl⟩; have hFa : Fr [] W7 (W7.drew.drewN na) := (by repeat (first | exact Fr.refl _ _ | assumption | apply Fr.drewN | apply Fr.drew | apply Fr.alloc | refine Fr.setCell ?_ (by simp) _)))
                | (go_at_call 15; refine (awake_any _ (htab.fr (Fr.trans hF7 (by repeat (first | exact Fr.refl _ _ | assumption | apply Fr.drewN | apply Fr.drew | apply Fr.alloc | refine Fr.setCell ?_ (by simp) _))))).mono ?_; rintro e wb ⟨rfl, hfb⟩; have hFb : Fr [] W7 wb := (Fr.trans (by repeat (first | exact Fr.refl _ _ | assumption | apply Fr.drewN | apply Fr.drew | apply Fr.alloc | refine Fr.setCell ?_ (by simp) _)) hfb)))
            go_wp2
            go_ret
            exact ⟨rfl, hF7.trans hFb⟩
  · go_wp2_with fail
    rw [HW6.out]
    go_loopw [15] (fun i wr' => ∃ k : Nat, k ≤ T.length ∧ i = .int .i64 k ∧ Fr [] W6 wr') (fun i _ => T.length - (intOf i).toNat)
    case atStart => exact ⟨0, Nat.zero_le _, rfl, Fr.refl _ _⟩
    case round =>
      obtain ⟨i, hi, rfl, hf⟩ := hrel
      by_cases hlt : i < T.length
      · go_wp2_with fail
        go_loopw [16] (fun j wr' => ∃ k : Nat, k ≤ i ∧ j = .int .i64 k ∧ Fr [] W6 wr') (fun j _ => i - (intOf j).toNat)
        case atStart => exact ⟨0, Nat.zero_le _, rfl, hf⟩
        case round =>
          obtain ⟨k, hk, rfl, hf⟩ := hrel
          by_cases hlk : k < i
          · obtain ⟨b7, o7, p, A7, c7, hbx, hp, hc7, hr7⟩ := (hT6.fr0 hf).at_ hlt
            injection hbx with hbx
            injection hbx with hb7 ho7 _
            subst hb7 ho7
            obtain ⟨b8, o8, q, A8, c8, hbx, hq, hc8, hr8⟩ := (hT6.fr0 hf).at_ (show k < T.length by omega)
            injection hbx with hbx
            injection hbx with hb8 ho8 _
            subst hb8 ho8
            have hkT : k < T.length := by omega
            have hpq := nodup_ne HND.out hp.out hq.out hlk
            have hdl : decide (p = q) = false := by simpa using hpq
            clear hpq
            go_wp2_with fail
            go_region_held3 (fun w' => w'.cell? ⟨bT, oT + i, none⟩ = some (.slice A7 p.length c7) ∧ w'.cell? ⟨bT, oT + k, none⟩ = some (.slice A8 q.length c8))
              (first
                | go_keep
                | exact ⟨hFa.cell hc7 (by simp), hFa.cell hc8 (by simp)⟩)
              (first
                | (go_at_call 18; refine (lawints_any A7 A8 c7 c8 p q _ (hr7.fr0 (by repeat (first | exact Fr.refl _ _ | assumption | apply Fr.drewN | apply Fr.drew | apply Fr.alloc | refine Fr.setCell ?_ (by simp) _))) (hr8.fr0 (by repeat (first | exact Fr.refl _ _ | assumption | apply Fr.drewN | apply Fr.drew | apply Fr.alloc | refine Fr.setCell ?_ (by simp) _)))).mono ?_; rw [hdl]; rintro e wa ⟨rfl, na, rfl⟩; have hFa : Fr [] wr (wr.drew.drewN na) := (by repeat (first | exact Fr.refl _ _ | assumption | apply Fr.drewN | apply Fr.drew | apply Fr.alloc | refine Fr.setCell ?_ (by simp) _))))
            go_wp2_with fail
            go_roundw
            case rel => exact ⟨k + 1, by omega, by go_num, hf.trans ((Fr.refl _ _).drewN _)⟩
            case measure => simp [intOf]; omega
          · go_wp2_with fail
            go_roundw
            case rel => exact ⟨i + 1, by omega, by go_num, hf⟩
            case measure => simp [intOf]; omega
      · have hFr := hF6.trans hf
        have hbr := hb6.fr hf (by simp)
        have hTr := hT6.fr0 hf
        have hL1 : ((T.length : Int) == 0) = false := by rw [beq_eq_false_iff_ne]; omega
        have hL2 : (T.length == 0) = false := by rw [beq_eq_false_iff_ne]; omega
        go_wp2_with fail
        have htp : (0 : Int) < (T.length : Int) := by omega
        have h1 := Int.lt_tmod_of_pos cut htp
        have h2 := Int.tmod_lt_of_pos cut htp
        have hwr : wrap64 (cut.tmod (T.length : Int) + (T.length : Int)) = cut.tmod (T.length : Int) + (T.length : Int) := IntWalk.wrap64_in _ (by omega)
        obtain ⟨ct, hct, hctl⟩ : ∃ ct : Nat, (wrap64 (cut.tmod (T.length : Int) + (T.length : Int))).tmod (T.length : Int) = ct ∧ ct < T.length := by
          rw [hwr]
          have h3 := Int.tmod_nonneg (a := cut.tmod (T.length : Int) + (T.length : Int)) (T.length : Int) (by omega)
          have h4 := Int.tmod_lt_of_pos (cut.tmod (T.length : Int) + (T.length : Int)) htp
          exact ⟨((cut.tmod (T.length : Int) + (T.length : Int)).tmod (T.length : Int)).toNat, by omega, by omega⟩
        rw [hct]
        clear hct hwr h1 h2 htp
        obtain ⟨W0, hW0⟩ : ∃ W0, W0 = wr := ⟨_, rfl⟩
        subst hW0
        go_loopw [17, 18] (fun v i wr' => ∃ k : Nat, k ≤ ct ∧ i = .int .i64 k ∧ AnsInv W0 T (sayO o) k v wr') (fun _ i _ => ct - (intOf i).toNat)
        case atStart => exact ⟨0, Nat.zero_le _, rfl, [], none, 0, by show _ = _; simp, rfl, rfl, World.ownsRow_nil _ _ _ _, Fr.refl _ _⟩
        case round =>
          obtain ⟨k, hk, rfl, ans, A5, c5, hans, hal, rfl, ho5, hf5⟩ := hrel
          have hF5 := hFr.trans hf5
          have hb5 := hbr.fr hf5 (by simp)
          have hT5 := hTr.fr0 hf5
          by_cases hlk : k < ct
          · obtain ⟨b7, o7, q, A7, c7, hbx, hq, hc7, hr7⟩ := hTr.at_ (show k < T.length by omega)
            injection hbx with hbx
            injection hbx with hb7 ho7 _
            subst hb7 ho7
            have hc0 := hc7
            have hc7 := hf5.cell hc0 (by simp)
            have hr7 := hr7.fr0 hf5
            have hkT : k < T.length := by omega
            have hnx := Lib.hid (ans_more hans hq)
            have HAL := Lib.hid hal
            have hal4 : ans.length ≤ 4096 := by omega
            have e0 := hb5.cell 0 rfl
            have e1 := hb5.cell 1 rfl
            have e2 := hb5.cell 2 rfl
            have e3 := hb5.cell 3 rfl
            have HOW := Lib.hid ho5
            have hws := hf5.size
            clear hans hal ho5
            go_wp2_with fail
            go_region_held3 (fun w' => w'.cell? ⟨w.heap.size, 0, none⟩ = some (.slice N o.need.length nn) ∧ w'.cell? ⟨w.heap.size, 1, none⟩ = some (.slice B o.bar.length b) ∧ w'.cell? ⟨w.heap.size, 2, none⟩ = some (.int .u64 o.salt) ∧ w'.cell? ⟨w.heap.size, 3, none⟩ = some (.int .u8 o.loose) ∧ w'.cell? ⟨bT, oT + k, none⟩ = some (.slice A7 q.length c7))
              (first
                | go_keep
                | exact ⟨hFa.cell e0 (by simp), hFa.cell e1 (by simp), hFa.cell e2 (by simp), hFa.cell e3 (by simp), hFa.cell hc7 (by simp)⟩
                | exact ⟨hFb.cell (hbr.cell 0 rfl) (by simp), hFb.cell (hbr.cell 1 rfl) (by simp), hFb.cell (hbr.cell 2 rfl) (by simp), hFb.cell (hbr.cell 3 rfl) (by simp), hFb.cell hc0 (by simp)⟩)
              (first
                | (go_at_call 23; refine (Say_any _ o A7 c7 q _ (HOV.out.fr0 (Fr.trans hF5 (by repeat (first | exact Fr.refl _ _ | assumption | apply Fr.drewN | apply Fr.drew | apply Fr.alloc | refine Fr.setCell ?_ (by simp) _)))) (hr7.fr0 (by repeat (first | exact Fr.refl _ _ | assumption | apply Fr.drewN | apply Fr.drew | apply Fr.alloc | refine Fr.setCell ?_ (by simp) _))) HG.out).mono ?_; rintro e w8 ⟨rfl, hfa8⟩; have hFa : Fr [] wr w8 := (Fr.trans (by repeat (first | exact Fr.refl _ _ | assumption | apply Fr.drewN | apply Fr.drew | apply Fr.alloc | refine Fr.setCell ?_ (by simp) _)) hfa8))
                | (refine step_append_rd rfl (.tmp 83) (.tmp 90) _ rfl elemVe (.slice A5 ans.length c5) (ans.map (.int .u8)) rfl ((own_fr HOW.out hFa (by simp)).alloc _) (some ⟨w8.heap.size, 0, none⟩) 1 [sayO o q] (.int .u8) rfl (Rd.one w8 39 (.int .u8) (sayO o q)) one_u8 (by simp; omega) (Nat.le_trans (Nat.le_trans hws hFa.size) (by simp)) ?_; intro A10 c10 w10 hown10 hg10 hat10; have hFb : Fr [] W0 w10 := ((hf5.trans hFa).alloc (.cells #[.int .u8 (sayO o q)] 39)).app ((own_fr HOW.out hFa (by simp)).alloc _) (Nat.le_refl _) hg10))
            go_wp2_with fail
            go_roundw
            case rel => exact ⟨k + 1, by omega, by go_num, ans ++ [sayO o q], A10, c10, hnx, by simp [HAL.out], by simp, by simpa using hown10, hFb⟩
            case measure => simp [intOf]; omega
          · obtain rfl : k = ct := by omega
            obtain ⟨b7, o7, q, A7, c7, hbx, hq, hc0, hr70⟩ := hTr.at_ hctl
            injection hbx with hbx
            injection hbx with hb7 ho7 _
            subst hb7 ho7
            have hres := HAT.out k q hq.out
            rw [← hans.out] at hres
            have HRES := Lib.hid hres
            have hr5 : Rd wr (.int .u8) A5 c5 ans := (Rd.of_own ho5).2
            have HAL := Lib.hid hal
            clear hres hans hal
            go_wp2_with fail
            refine (lask_any wh n start A5 c5 ans _ hr5 (htab.fr hF5) (by omega)).mono ?_
            rw [HRES.out]
            rintro e w7 ⟨v7, rfl, hf7, A9, a9, B9, b9, C9, c9, rfl, ⟨hq9, _⟩, ⟨_, _⟩, _, _⟩
            obtain ⟨W7, hW7⟩ : ∃ W7, W7 = w7.alloc (.cells #[.bool false, .slice A9 q.length a9, .slice B9 0 b9, .slice C9 0 c9] 34) := ⟨_, rfl⟩
            have hQ : Blk W7 w7.heap.size 34 #[.bool false, .slice A9 q.length a9, .slice B9 0 b9, .slice C9 0 c9] := by rw [hW7]; exact Blk.new _ _ _ _ rfl
            have hf77 : Fr [] w7 W7 := by rw [hW7]; exact (Fr.refl _ _).alloc _
            have hf07 := hf5.trans (hf7.trans hf77)
            have hF7 := hFr.trans hf07
            have hc7 := hf07.cell hc0 (by simp)
            have hr7 := hr70.fr0 hf07
            have hr9 := hq9.fr0 hf77
            have q0c := hQ.cell 0 rfl
            have q1c := hQ.cell 1 rfl
            have HW7 := Lib.hid hW7.symm
            clear hW7 hq hq9 hf7 hf77 hr5 ho5
            go_wp2_with fail
            rw [HW7.out]
            have dl : decide (q = q) = true := by simp
            have DL := Lib.hid dl
            clear dl
            go_region_held3 (fun w' => w'.cell? ⟨w7.heap.size, 0, none⟩ = some (.bool false) ∧ w'.cell? ⟨w7.heap.size, 1, none⟩ = some (.slice A9 q.length a9) ∧ w'.cell? ⟨bT, oT + k, none⟩ = some (.slice A7 q.length c7))
              (first
                | go_keep
                | exact ⟨hFa.cell q0c (by simp), hFa.cell q1c (by simp), hFa.cell hc7 (by simp)⟩
                | exact ⟨hFb.cell q0c (by simp), hFb.cell q1c (by simp), hFb.cell hc7 (by simp)⟩)
              (first
                | (go_at_call 18; refine (lawints_any A9 A7 a9 c7 q q _ (hr9.fr0 (by repeat (first | exact Fr.refl _ _ | assumption | apply Fr.drewN | apply Fr.drew | apply Fr.alloc | refine Fr.setCell ?_ (by simp) _))) (hr7.fr0 (by repeat (first | exact Fr.refl _ _ | assumption | apply Fr.drewN | apply Fr.drew | apply Fr.alloc | refine Fr.setCell ?_ (by simp) _)))).mono ?_; rw [DL.out]; rintro e wa ⟨rfl, na, rfl⟩; have hFa : Fr [] W7 (W7.drew.drewN na) := (by repeat (first | exact Fr.refl _ _ | assumption | apply Fr.drewN | apply Fr.drew | apply Fr.alloc | refine Fr.setCell ?_ (by simp) _)))
                | (go_at_call 15; refine (awake_any _ (htab.fr (Fr.trans hF7 (by repeat (first | exact Fr.refl _ _ | assumption | apply Fr.drewN | apply Fr.drew | apply Fr.alloc | refine Fr.setCell ?_ (by simp) _))))).mono ?_; rintro e wb ⟨rfl, hfb⟩; have hFb : Fr [] W7 wb := (Fr.trans (by repeat (first | exact Fr.refl _ _ | assumption | apply Fr.drewN | apply Fr.drew | apply Fr.alloc | refine Fr.setCell ?_ (by simp) _)) hfb)))
            go_wp2
            go_ret
            exact ⟨rfl, hF7.trans hFb⟩
end Go.Proofs.YtjpbmbonccenfaaDoor

/- ReduceSurplus: the walk. -/
namespace Go.Proofs.YtjpbmbonccenfaaDoor
open Go.RowKit
set_option linter.unusedVariables false
set_option linter.unusedSimpArgs false

theorem rd_rep {w : World} {B n c : Nat} {A : Option Addr} {e : TypeId} {x : Int} (h : w.ownsRow B e 1 (.slice A n c) n (List.replicate n (.int .u8 x))) : Rd w (.int .u8) A c (List.replicate n x) :=
  (Rd.of_own (enc := Value.int .u8) (xs := List.replicate n x) (by rw [List.map_replicate]; exact h)).2
set_option maxRecDepth 100000 in
set_option maxHeartbeats 6400000 in
theorem LSurp_any (v : Value) (o : Orc) (n start which more vv : Int) (w : World) (hov : OrcIs w v o) (hwr : 0 ≤ which ∧ which ≤ 255) (hmr : 0 ≤ more ∧ more ≤ 255) (htab : Tab w) :
    Calls Tryd.prog 14 #[v, .int .i64 n, .int .i64 start, .int .u8 which, .int .u8 more, .int .u8 vv] w (RetV w (.bool true)) := by
  obtain ⟨y, rfl⟩ : ∃ y : Nat, more = y := ⟨more.toNat, by omega⟩
  have hm1 : (y : Int) % 9 = ((y % 9 : Nat) : Int) := by omega
  have hm2 : y % 9 ≤ 8 := by omega
  generalize y % 9 = mm at *
  obtain ⟨N, nn, B, b, rfl, hN, hB, hs, hlo⟩ := id hov
  have HOV := Lib.hid hov
  clear hov
  obtain ⟨W, hW⟩ : ∃ W, W = w.alloc (.cells #[.slice N o.need.length nn, .slice B o.bar.length b, .int .u64 o.salt, .int .u8 o.loose] 30) := ⟨_, rfl⟩
  have hFW : Fr [] w W := by rw [hW]; exact (Fr.refl _ _).alloc _
  have hbk : Blk W w.heap.size 30 #[.slice N o.need.length nn, .slice B o.bar.length b, .int .u64 o.salt, .int .u8 o.loose] := by rw [hW]; exact Blk.new _ _ _ _ rfl
  have HW := Lib.hid hW.symm
  clear hW
  by_cases h9 : 7 < n
  · have d9 : decide (7 < n) = true := by simpa using h9
    go_enter Tryd.func14, Tryd.ntmps14
    go_wp2_with fail
    rw [HW.out]
    refine (awake_any _ (htab.fr hFW)).mono ?_
    rintro e w2 ⟨rfl, hf2⟩
    go_wp2
    go_ret
    exact ⟨rfl, hFW.trans hf2⟩
  have d9 : decide (7 < n) = false := by simpa using h9
  have hn9 : n ≤ 7 := by omega
  clear h9
  have hgc := Great_any _ o W (HOV.out.fr0 hFW)
  have e0 := hbk.cell 0 rfl
  have e1 := hbk.cell 1 rfl
  have e2 := hbk.cell 2 rfl
  have e3 := hbk.cell 3 rfl
  rw [← HW.out] at e0 e1 e2 e3
  rcases hg : greatO o with _ | _
  rotate_left
  · rw [hg] at hgc
    clear hg
    go_enter Tryd.func14, Tryd.ntmps14
    go_wp2_with fail
    rw [HW.out]
    refine hgc.mono ?_
    rintro e w1 ⟨rfl, hf1⟩
    go_wp2_with fail
    refine (awake_any _ (htab.fr (hFW.trans hf1))).mono ?_
    rintro e w3 ⟨rfl, hf3⟩
    go_wp2
    go_ret
    exact ⟨rfl, (hFW.trans hf1).trans hf3⟩
  have HG := Lib.hid hg
  rw [hg] at hgc
  clear hg
  obtain ⟨x, rfl⟩ : ∃ x : Nat, which = x := ⟨which.toNat, by omega⟩
  have hw1 : (x : Int) % 4 = ((x % 4 : Nat) : Int) := by omega
  go_enter Tryd.func14, Tryd.ntmps14
  go_wp2_with fail
  rw [HW.out]
  refine hgc.mono ?_
  rintro e w1 ⟨rfl, hf1⟩
  have hF1 := hFW.trans hf1
  have hb1 := hbk.fr hf1 (by simp)
  clear hgc hf1 hbk hFW e0 e1 e2 e3 HW
  have hS := searched_any (x % 4) n start _ o w1 (HOV.out.fr0 hF1) HG.out (by omega) (htab.fr hF1)
  have hLR := lawRes_is (wh := x % 4) (n := n.toNat) (start := start) (o := sayO o) (by omega) (sayO_told o)
  have HPOS := lawAsks_pos (wh := x % 4) (n := n.toNat) (start := start) (o := sayO o)
  have HLE := lawAsks_le (wh := x % 4) (n := n.toNat) (start := start) (o := sayO o) (by omega)
  have HSU : Hid (((lawT (x % 4) n.toNat start).res (sayO o)).1 = 0 → ∀ extra : List Int, 0 < extra.length → extra.length ≤ 100 → lawOf (x % 4) n start ((lawAsks (x % 4) n.toNat start (sayO o)).map (sayO o) ++ extra) = (⟨false, [], [], []⟩, 8)) :=
    fun hr extra h1 h2 => law_surplus hn9 (sayO_told o) ⟨h1, h2⟩ hr
  have HMA : Hid (∀ ans : List Int, 4096 < ans.length → lawOf (x % 4) n start ans = (⟨false, [], [], []⟩, 3)) := fun ans h => law_many (by omega) h
  obtain ⟨r, hr⟩ : ∃ r, lawRes (x % 4) n.toNat start (sayO o) = r := ⟨_, rfl⟩
  have hcase : (∃ kept pass, r = (⟨true, [], kept, pass⟩, 0) ∧ ((lawT (x % 4) n.toNat start).res (sayO o)).1 = 0) ∨ r = (⟨false, [], [], []⟩, 7) := by
    rw [← hr]
    rcases hLR with ⟨kept, pass, h1, h2⟩ | ⟨_, h2⟩
    · exact .inl ⟨kept, pass, h2, by rw [h1]⟩
    · exact .inr h2
  rw [hr] at hS
  clear hr hLR
  generalize (lawT (x % 4) n.toNat start).res (sayO o) = rs at *
  generalize lawAsks (x % 4) n.toNat start (sayO o) = T at *
  generalize x % 4 = wh at *
  have e0 := hb1.cell 0 rfl
  have e1 := hb1.cell 1 rfl
  have e2 := hb1.cell 2 rfl
  have e3 := hb1.cell 3 rfl
  rcases hcase with ⟨kept, pass, rfl, hr0⟩ | rfl
  rotate_left
  · go_wp2_with fail
    refine hS.mono ?_
    rintro e w6 ⟨v6, S6, s6, rfl, hf6, ⟨A1, a1, B1, b1, C1, c1, rfl, hq1, hq2, hq3⟩, hT⟩
    obtain ⟨W6, hW6⟩ : ∃ W6, W6 = w6.alloc (.cells #[.bool false, .slice A1 0 a1, .slice B1 0 b1, .slice C1 0 c1] 34) := ⟨_, rfl⟩
    have hF6 := (hF1.trans hf6).trans (show Fr [] w6 W6 by rw [hW6]; exact (Fr.refl _ _).alloc _)
    have HW6 := Lib.hid hW6.symm
    clear hW6
    go_wp2_with fail
    rw [HW6.out]
    refine (awake_any _ (htab.fr hF6)).mono ?_
    rintro e w20 ⟨rfl, hf20⟩
    go_wp2
    go_ret
    exact ⟨rfl, hF6.trans hf20⟩
  have HSX := Lib.hid (HSU.out hr0)
  clear HSU hr0
  go_wp2_with fail
  refine hS.mono ?_
  rintro e w6 ⟨v6, S6, s6, rfl, hf6, ⟨A1, a1, B1, b1, C1, c1, rfl, hq1, hq2, hq3⟩, hT⟩
  obtain ⟨W0, hW0⟩ : ∃ W0, W0 = w6.alloc (.cells #[.bool true, .slice A1 0 a1, .slice B1 kept.length b1, .slice C1 pass.length c1] 34) := ⟨_, rfl⟩
  have hQ : Blk W0 w6.heap.size 34 #[.bool true, .slice A1 0 a1, .slice B1 kept.length b1, .slice C1 pass.length c1] := by rw [hW0]; exact Blk.new _ _ _ _ rfl
  have hf66 : Fr [] w6 W0 := by rw [hW0]; exact (Fr.refl _ _).alloc _
  have hfa := hf6.trans hf66
  have hbr := hb1.fr hfa (by simp)
  have hFr := hF1.trans hfa
  have hTr := hT.fr0 hf66
  have HW0 := Lib.hid hW0.symm
  have m0 := hQ.cell 0 rfl
  rw [hW0] at m0
  clear hW0 hq1 hq2 hq3 hT e0 e1 e2 e3 hS hF1 hb1 hf6 hf66 hfa hQ
  obtain ⟨bT, oT, rfl, _⟩ := hTr.at0 HPOS
  go_wp2_with fail
  rw [HW0.out]
  clear m0 HW0
  go_loopw [17, 18] (fun v i wr' => ∃ k : Nat, k ≤ T.length ∧ i = .int .i64 k ∧ AnsInv W0 T (sayO o) k v wr') (fun _ i _ => T.length - (intOf i).toNat)
  case atStart => exact ⟨0, Nat.zero_le _, rfl, [], none, 0, by show _ = _; simp, rfl, rfl, World.ownsRow_nil _ _ _ _, Fr.refl _ _⟩
  case round =>
    obtain ⟨k, hk, rfl, ans, A5, c5, hans, hal, rfl, ho5, hf5⟩ := hrel
    have hF5 := hFr.trans hf5
    have hb5 := hbr.fr hf5 (by simp)
    have HAL := Lib.hid hal
    have hal4 : ans.length ≤ 4096 := by omega
    have hws := hf5.size
    by_cases hlk : k < T.length
    · obtain ⟨b7, o7, q, A7, c7, hbx, hq, hc7, hr7⟩ := hTr.at_ hlk
      injection hbx with hbx
      injection hbx with hb7 ho7 _
      subst hb7 ho7
      have hc0 := hc7
      have hc7 := hf5.cell hc0 (by simp)
      have hr7 := hr7.fr0 hf5
      have hnx := Lib.hid (ans_more hans hq)
      have e0 := hb5.cell 0 rfl
      have e1 := hb5.cell 1 rfl
      have e2 := hb5.cell 2 rfl
      have e3 := hb5.cell 3 rfl
      have HOW := Lib.hid ho5
      clear hans hal ho5
      go_wp2_with fail
      go_region_held3 (fun w' => w'.cell? ⟨w.heap.size, 0, none⟩ = some (.slice N o.need.length nn) ∧ w'.cell? ⟨w.heap.size, 1, none⟩ = some (.slice B o.bar.length b) ∧ w'.cell? ⟨w.heap.size, 2, none⟩ = some (.int .u64 o.salt) ∧ w'.cell? ⟨w.heap.size, 3, none⟩ = some (.int .u8 o.loose) ∧ w'.cell? ⟨bT, oT + k, none⟩ = some (.slice A7 q.length c7))
        (first
          | go_keep
          | exact ⟨hFa.cell e0 (by simp), hFa.cell e1 (by simp), hFa.cell e2 (by simp), hFa.cell e3 (by simp), hFa.cell hc7 (by simp)⟩
          | exact ⟨hFb.cell (hbr.cell 0 rfl) (by simp), hFb.cell (hbr.cell 1 rfl) (by simp), hFb.cell (hbr.cell 2 rfl) (by simp), hFb.cell (hbr.cell 3 rfl) (by simp), hFb.cell hc0 (by simp)⟩)
        (first
          | (go_at_call 23; refine (Say_any _ o A7 c7 q _ (HOV.out.fr0 (Fr.trans hF5 (by repeat (first | exact Fr.refl _ _ | assumption | apply Fr.drewN | apply Fr.drew | apply Fr.alloc | refine Fr.setCell ?_ (by simp) _)))) (hr7.fr0 (by repeat (first | exact Fr.refl _ _ | assumption | apply Fr.drewN | apply Fr.drew | apply Fr.alloc | refine Fr.setCell ?_ (by simp) _))) HG.out).mono ?_; rintro e w8 ⟨rfl, hfa8⟩; have hFa : Fr [] wr w8 := (Fr.trans (by repeat (first | exact Fr.refl _ _ | assumption | apply Fr.drewN | apply Fr.drew | apply Fr.alloc | refine Fr.setCell ?_ (by simp) _)) hfa8))
          | (refine step_append_rd rfl (.tmp 58) (.tmp 65) _ rfl elemVe (.slice A5 ans.length c5) (ans.map (.int .u8)) rfl ((own_fr HOW.out hFa (by simp)).alloc _) (some ⟨w8.heap.size, 0, none⟩) 1 [sayO o q] (.int .u8) rfl (Rd.one w8 39 (.int .u8) (sayO o q)) one_u8 (by simp; omega) (Nat.le_trans (Nat.le_trans hws hFa.size) (by simp)) ?_; intro A10 c10 w10 hown10 hg10 hat10; have hFb : Fr [] W0 w10 := ((hf5.trans hFa).alloc (.cells #[.int .u8 (sayO o q)] 39)).app ((own_fr HOW.out hFa (by simp)).alloc _) (Nat.le_refl _) hg10))
      go_wp2_with fail
      go_roundw
      case rel => exact ⟨k + 1, by omega, by go_num, ans ++ [sayO o q], A10, c10, hnx, by simp [HAL.out], by simp, by simpa using hown10, hFb⟩
      case measure => simp [intOf]; omega
    · have hall : Hid (ans = T.map (sayO o)) := by show _ = _; rw [hans.out, List.take_of_length_le (by omega)]
      have hI0 : ∃ (a2 : List Int) (A : Option Addr) (c : Nat), Hid (a2 = T.map (sayO o) ++ List.replicate 0 vv) ∧ (Value.slice A5 ans.length c5) = .slice A a2.length c ∧ wr.ownsRow W0.heap.size 39 1 (.slice A a2.length c) a2.length (a2.map (.int .u8)) ∧ Fr [] W0 wr :=
        ⟨ans, A5, c5, by show _ = _; rw [hall.out]; simp, rfl, ho5, hf5⟩
      clear hans hal ho5 hall
      go_wp2_with fail
      go_loopw [17, 19] (fun v i wr' => ∃ k : Nat, k ≤ mm + 1 ∧ i = .int .i64 k ∧ ∃ (a2 : List Int) (A : Option Addr) (c : Nat), Hid (a2 = T.map (sayO o) ++ List.replicate k vv) ∧ v = .slice A a2.length c ∧ wr'.ownsRow W0.heap.size 39 1 (.slice A a2.length c) a2.length (a2.map (.int .u8)) ∧ Fr [] W0 wr') (fun _ i _ => mm + 1 - (intOf i).toNat)
      case atStart => exact ⟨0, Nat.zero_le _, rfl, hI0⟩
      case round =>
        clear hI0 HAL hal4 hws hf5 hF5 hb5
        obtain ⟨k2, hk2, rfl, a2, A6, c6, ha2, rfl, ho6, hf6⟩ := hrel
        have hF6 := hFr.trans hf6
        have hl2 : a2.length ≤ 5000 := by rw [ha2.out]; simp; omega
        have hws := hf6.size
        by_cases hlk2 : k2 ≤ mm
        · have HOW := Lib.hid (ho6.alloc (.cells #[.int .u8 vv] 39))
          have HRV := Lib.hid (Rd.one wr 39 (.int .u8) vv)
          have hnx : Hid (a2 ++ [vv] = T.map (sayO o) ++ List.replicate (k2 + 1) vv) := by show _ = _; rw [ha2.out, List.replicate_succ', List.append_assoc]
          have hbB : (a2.length + [vv].length) * 1 ≤ 140737488355328 := by simp; omega
          have hbW : W0.heap.size ≤ (wr.alloc (.cells #[.int .u8 vv] 39)).heap.size := Nat.le_trans hws (by simp)
          clear ha2 ho6
          go_wp2_with (at_builtin; go_loud (refine wpList_append_rd rfl (.tmp 74) (.tmp 76) _ rfl elemVe (.slice A6 a2.length c6) (a2.map (.int .u8)) rfl HOW.out (some ⟨wr.heap.size, 0, none⟩) 1 [vv] (.int .u8) rfl HRV.out one_u8 hbB hbW ?_; intro A10 c10 w10 ho10 hg10 hat10))
          go_roundw
          case rel =>
            have hF10 : Fr [] W0 w10 := (hf6.alloc _).app HOW.out (Nat.le_refl _) hg10
            exact ⟨k2 + 1, by omega, by go_num, a2 ++ [vv], A10, c10, hnx, by simp, by simpa using ho10, hF10⟩
          case measure => simp [intOf]; omega
        · obtain rfl : k2 = mm + 1 := by omega
          have hres := HSX.out (List.replicate (mm + 1) vv) (by simp) (by simp; omega)
          rw [← ha2.out] at hres
          have HRES := Lib.hid hres
          have hr6 : Rd wr (.int .u8) A6 c6 a2 := (Rd.of_own ho6).2
          clear hres ha2 ho6
          go_wp2_with fail
          refine (lask_any wh n start A6 c6 a2 _ hr6 (htab.fr hF6) (by omega)).mono ?_
          rw [HRES.out]
          rintro e w7 ⟨v7, rfl, hf7, A9, a9, B9, b9, C9, c9, rfl, ⟨_, _⟩, ⟨_, _⟩, _, _⟩
          obtain ⟨W7, hW7⟩ : ∃ W7, W7 = w7.alloc (.cells #[.bool false, .slice A9 0 a9, .slice B9 0 b9, .slice C9 0 c9] 34) := ⟨_, rfl⟩
          have hf77 : Fr [] w7 W7 := by rw [hW7]; exact (Fr.refl _ _).alloc _
          have hF7 := (hF6.trans hf7).trans hf77
          have HW7 := Lib.hid hW7.symm
          have HZ7 : Hid (W7.heap.size = w7.heap.size + 1) := by show _ = _; rw [hW7]; simp
          clear hW7 hr6 hf7 hf77
          have HMK : Hid (∀ (w8 : World) (H c8 : Nat), W7.grownBy w8 none → w8.ownsRow W7.heap.size 39 1 (.slice (some ⟨H, 0, none⟩) 4097 c8) 4097 (List.replicate 4097 (.int .u8 0)) → Fr [] w w8 ∧ Calls Tryd.prog 58 #[.int .u8 wh, .int .i64 n, .int .i64 start, .slice (some ⟨H, 0, none⟩) 4097 c8] w8 (RetQstF w8.heap.size w8 (⟨false, [], [], []⟩, 3))) := fun w8 H c8 hg ho => by
            have hf := hF7.trans ((Fr.refl _ W7).grown hg (by simp))
            refine ⟨hf, ?_⟩
            have hr := rd_rep ho
            have hl : (List.replicate 4097 (0 : Int)).length = 4097 := List.length_replicate
            generalize List.replicate 4097 (0 : Int) = z at *
            have hc := lask_any wh n start (some ⟨H, 0, none⟩) c8 z w8 hr (htab.fr hf) (by omega)
            rw [HMA.out z (by omega), hl] at hc
            exact hc
          go_wp2_with (at_make; go_loud (refine wpList_makeN rfl _ _ _ rfl elemVe rfl 4097 rfl rfl (by omega) ?_; intro w8 hown8 hg8; rw [HW7.out] at hown8 hg8; obtain ⟨hf8, hc8⟩ := HMK.out w8 _ _ hg8 hown8; clear hown8 hg8))
          rw [HZ7.out] at hc8
          refine hc8.mono ?_
          rintro e w9 ⟨v9, rfl, hf9, A1', a1', B1', b1', C1', c1', rfl, ⟨_, _⟩, ⟨_, _⟩, _, _⟩
          have hF9 := (hf8.trans hf9).alloc (.cells #[.bool false, .slice A1' 0 a1', .slice B1' 0 b1', .slice C1' 0 c1'] 34)
          go_wp2_with fail
          refine (awake_any _ (htab.fr hF9)).mono ?_
          rintro e w20 ⟨rfl, hf20⟩
          go_wp2
          go_ret
          exact ⟨rfl, hF9.trans hf20⟩
end Go.Proofs.YtjpbmbonccenfaaDoor
