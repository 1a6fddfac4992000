/- Texts of this seat, one behind the other: LAsk, Srch, LIso. -/
import Derived.Test.YtjpbmbonccenfaaDoorZIso32
import Derived.Test.YtjpbmbonccenfaaDoorZIso34
import Derived.Test.YtjpbmbonccenfaaDoorZIso30
import Derived.Test.YtjpbmbonccenfaaDoorZIso26
import Derived.Test.YtjpbmbonccenfaaDoorZIso35
import Derived.Test.YtjpbmbonccenfaaDoorZIso29
import Derived.Test.YtjpbmbonccenfaaDoorZIso31
/- ask of the law: one of the searches for sets. -/
namespace Go.Proofs.YtjpbmbonccenfaaDoor
open Go.RowKit
set_option linter.unusedVariables false

theorem rss_free {w : World} {B n c : Nat} {A : Option Addr} (h : w.ownsRow B 22 1 (.slice A n c) n (List.replicate n (.slice none 0 0))) : Rss w A c (List.replicate n []) := by
  have h' : w.ownsRow B 22 1 (.slice A n c) n ((List.replicate n ((none, 0, 0) : Option Addr × Nat × Nat)).map encSl) := by simpa [encSl] using h
  obtain ⟨_, hr⟩ := Rd.of_own h'
  refine ⟨by simpa using hr.le, hr.cap, fun h0 => ?_⟩
  obtain ⟨b, off, hA, hc⟩ := hr.at0 (by simpa using h0)
  refine ⟨b, off, hA, fun k l hl => ⟨none, 0, ?_, ?_⟩⟩
  · have hk := (List.getElem?_eq_some_iff.1 hl).1
    have he := (List.getElem?_eq_some_iff.1 hl).2
    simp at he
    subst he
    have := hc k (none, 0, 0) (by rw [List.getElem?_replicate, if_pos (by simpa using hk)])
    exact this
  · have he := (List.getElem?_eq_some_iff.1 hl).2
    simp at he
    subst he
    exact Rd.nil_ _ _

set_option maxRecDepth 100000 in
set_option maxHeartbeats 3200000 in
theorem lask_any (wh : Nat) (n start : Int) (D : Option Addr) (f : Nat) (ans : List Int) (w : World) (hd : Rd w (.int .u8) D f ans) (htab : Tab w) (hn : n ≤ 256) :
    Calls Tryd.prog 58 #[.int .u8 wh, .int .i64 n, .int .i64 start, .slice D ans.length f] w (RetQstF w.heap.size w (lawOf wh n start ans)) := by
  obtain ⟨W, hW⟩ : ∃ W, W = w.alloc (.cells #[.bool false, .slice none 0 0, .slice none 0 0, .slice none 0 0] 34) := ⟨_, rfl⟩
  have hfW : Fr [] w W := by rw [hW]; exact (Fr.refl _ _).alloc _
  have hbQ : Blk W w.heap.size 34 #[.bool false, .slice none 0 0, .slice none 0 0, .slice none 0 0] := by rw [hW]; exact Blk.new _ _ _ _ rfl
  have HW := Lib.hid hW.symm
  have HZW : Hid (W.heap.size = w.heap.size + 1) := by show _ = _; rw [hW]; simp
  clear hW
  have hz := hfW.size
  by_cases h0 : wh = 0
  · subst h0
    obtain ⟨r, hr⟩ : ∃ r, r = listOf n ans := ⟨_, rfl⟩
    have hR : Hid (lawOf 0 n start ans = r) := hr.symm
    have HR := Lib.hid hr
    clear hr
    go_enter Tryd.func58, Tryd.ntmps58
    go_wp2_with fail
    rw [HW.out]
    refine (List_any D f n ans W (hd.fr0 hfW) (htab.fr hfW)).mono ?_
    rw [← HR.out]
    rintro e w6 ⟨vq, rfl, hf6, A1, a1, B1, b1, C1, c1, rfl, ⟨hq1, n1⟩, ⟨hq2, n2⟩, hq3, n3⟩
    have hB6 := hbQ.fr hf6 (by simp)
    have qc0 := hB6.cell 0 rfl
    have qc1 := hB6.cell 1 rfl
    have qc2 := hB6.cell 2 rfl
    have qc3 := hB6.cell 3 rfl
    have qd0 := hB6.frozen 0
    have qd1 := hB6.frozen 1
    have qd2 := hB6.frozen 2
    have qd3 := hB6.frozen 3
    go_wp2
    refine bodyPost_ret (results_qst rfl _ _ w.heap.size rfl (hB6.four _ _ _ _)) rfl ?_
    rw [hR.out]
    exact qstF_ret (Nat.le_refl _) (hfW.trans hf6) hB6 ⟨hq1, n1.mono hz⟩ ⟨hq2, n2.mono hz⟩ ⟨hq3, n3.mono hz⟩
  · have b0 : ((wh : Int) == 0) = false := by rw [beq_eq_false_iff_ne]; omega
    by_cases h1 : wh = 1
    · subst h1
      obtain ⟨r, hr⟩ : ∃ r, r = countedOf n start ans := ⟨_, rfl⟩
      have hR : Hid (lawOf 1 n start ans = r) := hr.symm
      have HR := Lib.hid hr
      clear hr
      go_enter Tryd.func58, Tryd.ntmps58
      go_wp2_with fail
      rw [HW.out]
      refine (Counted_any D f n start ans W (hd.fr0 hfW) (htab.fr hfW)).mono ?_
      rw [← HR.out]
      rintro e w6 ⟨vq, rfl, hf6, A1, a1, B1, b1, C1, c1, rfl, ⟨hq1, n1⟩, ⟨hq2, n2⟩, hq3, n3⟩
      have hB6 := hbQ.fr hf6 (by simp)
      have qc0 := hB6.cell 0 rfl
      have qc1 := hB6.cell 1 rfl
      have qc2 := hB6.cell 2 rfl
      have qc3 := hB6.cell 3 rfl
      have qd0 := hB6.frozen 0
      have qd1 := hB6.frozen 1
      have qd2 := hB6.frozen 2
      have qd3 := hB6.frozen 3
      go_wp2
      refine bodyPost_ret (results_qst rfl _ _ w.heap.size rfl (hB6.four _ _ _ _)) rfl ?_
      rw [hR.out]
      exact qstF_ret (Nat.le_refl _) (hfW.trans hf6) hB6 ⟨hq1, n1.mono hz⟩ ⟨hq2, n2.mono hz⟩ ⟨hq3, n3.mono hz⟩
    · have b1 : ((wh : Int) == 1) = false := by rw [beq_eq_false_iff_ne]; omega
      by_cases h2 : wh = 2
      · subst h2
        obtain ⟨r, hr⟩ : ∃ r, r = differenceOf n ans := ⟨_, rfl⟩
        have hR : Hid (lawOf 2 n start ans = r) := hr.symm
        have HR := Lib.hid hr
        clear hr
        go_enter Tryd.func58, Tryd.ntmps58
        go_wp2_with fail
        rw [HW.out]
        refine (Difference_any D f n ans W (hd.fr0 hfW) (htab.fr hfW)).mono ?_
        rw [← HR.out]
        rintro e w6 ⟨vq, rfl, hf6, A1, a1, B1, b1, C1, c1, rfl, ⟨hq1, n1⟩, ⟨hq2, n2⟩, hq3, n3⟩
        have hB6 := hbQ.fr hf6 (by simp)
        have qc0 := hB6.cell 0 rfl
        have qc1 := hB6.cell 1 rfl
        have qc2 := hB6.cell 2 rfl
        have qc3 := hB6.cell 3 rfl
        have qd0 := hB6.frozen 0
        have qd1 := hB6.frozen 1
        have qd2 := hB6.frozen 2
        have qd3 := hB6.frozen 3
        go_wp2
        refine bodyPost_ret (results_qst rfl _ _ w.heap.size rfl (hB6.four _ _ _ _)) rfl ?_
        rw [hR.out]
        exact qstF_ret (Nat.le_refl _) (hfW.trans hf6) hB6 ⟨hq1, n1.mono hz⟩ ⟨hq2, n2.mono hz⟩ ⟨hq3, n3.mono hz⟩
      · have b2 : ((wh : Int) == 2) = false := by rw [beq_eq_false_iff_ne]; omega
        have hR : Hid (lawOf wh n start ans = changesOf (List.replicate n.toNat []) ans) := by show _ = _; unfold lawOf; rw [if_neg h0, if_neg h1, if_neg h2]
        have hmx : max n 0 = ((n.toNat : Nat) : Int) := by omega
        have hm : n.toNat ≤ 256 := by omega
        clear h0 h1 h2
        generalize n.toNat = m at *
        go_enter Tryd.func58, Tryd.ntmps58
        go_wp2_with (at_make; refine wpList_makeN rfl _ _ _ rfl elemSl rfl m rfl rfl (by omega) ?_; intro w7 hown7 hg7)
        rw [HW.out] at hg7 hown7
        have hL := rss_free hown7
        have hf7 : Fr [] W w7 := (Fr.refl _ W).grown hg7 (by simp)
        have hF7 := hfW.trans hf7
        have hB7 := hbQ.fr hf7 (by simp)
        have hz7 := hF7.size
        obtain ⟨r, hr⟩ : ∃ r, r = changesOf (List.replicate m []) ans := ⟨_, rfl⟩
        rw [← hr] at hR
        have HR := Lib.hid hr
        have hch := Changes_any _ D m f (List.replicate m []) ans w7 hL (hd.fr0 hF7) (htab.fr hF7)
        rw [← hr, List.length_replicate, HZW.out] at hch
        clear hr hL hown7 hg7
        go_wp2_with fail
        refine hch.mono ?_
        rintro e w6 ⟨vq, rfl, hf6, A1, a1, B1, b1, C1, c1, rfl, ⟨hq1, n1⟩, ⟨hq2, n2⟩, hq3, n3⟩
        have hB6 := hB7.fr hf6 (by simp)
        have qc0 := hB6.cell 0 rfl
        have qc1 := hB6.cell 1 rfl
        have qc2 := hB6.cell 2 rfl
        have qc3 := hB6.cell 3 rfl
        have qd0 := hB6.frozen 0
        have qd1 := hB6.frozen 1
        have qd2 := hB6.frozen 2
        have qd3 := hB6.frozen 3
        go_wp2
        refine bodyPost_ret (results_qst rfl _ _ w.heap.size rfl (hB6.four _ _ _ _)) rfl ?_
        rw [hR.out]
        exact qstF_ret (Nat.le_refl _) (hF7.trans hf6) hB6 ⟨hq1, n1.mono hz7⟩ ⟨hq2, n2.mono hz7⟩ ⟨hq3, n3.mono hz7⟩
end Go.Proofs.YtjpbmbonccenfaaDoor

/- searched of the law: a search is asked to its end. -/
namespace Go.Proofs.YtjpbmbonccenfaaDoor
open Go.RowKit
set_option linter.unusedVariables false

/-- A slice of its own whose cells are slices that read as lists; they lie neither in its block nor in u's. -/
def RowsR (W : World) (B : Nat) (v u : Value) (L : List (List Int)) : Prop :=
  ∃ (SA : Option Addr) (sc : Nat) (rows : List (Option Addr × Nat × Nat)), v = .slice SA L.length sc ∧ rows.length = L.length ∧ W.ownsRow B 22 1 v L.length (rows.map encSl) ∧
    ∀ (j : Nat) (l : List Int), L[j]? = some l → ∃ A c, rows[j]? = some (A, l.length, c) ∧ Rd W (.int .i64) A c l ∧ (0 < l.length → ∀ a, A = some a → v.ownBlock ≠ some a.block ∧ u.ownBlock ≠ some a.block)
section
variable {W W' : World} {B B' m : Nat} {v v' u u' : Value} {L : List (List Int)} {ys : List Value}
theorem RowsR.nil_ (W : World) (B : Nat) (u : Value) : RowsR W B (.slice none 0 0) u [] := ⟨none, 0, [], rfl, rfl, World.ownsRow_nil W B _ 1, fun j l h => by simp at h⟩
theorem RowsR.fr0 (h : RowsR W B v u L) (hf : Fr [] W W') : RowsR W' B v u L := by
  obtain ⟨SA, sc, rows, hv, hl, ho, hr⟩ := h
  refine ⟨SA, sc, rows, hv, hl, own_fr ho hf (by simp), fun j l hl => ?_⟩
  obtain ⟨A, c, h1, h2, h3⟩ := hr j l hl
  exact ⟨A, c, h1, h2.fr0 hf, h3⟩
theorem RowsR.grow (h : RowsR W B v u L) (hu : W.ownsRow B' 39 1 u m ys) (hg : W.grownBy W' u.ownBlock) (hat : u'.ownBlock = u.ownBlock ∨ u'.ownBlock = some W.heap.size) : RowsR W' B v u' L := by
  obtain ⟨SA, sc, rows, hv, hl, ho, hr⟩ := h
  refine ⟨SA, sc, rows, hv, hl, own_fr ho (frOfGrown hg) (fun k hk hm => own_ne_own ho hu (by decide) k hk (by simpa using hm)), fun j l hl => ?_⟩
  obtain ⟨A, c, h1, h2, h3⟩ := hr j l hl
  refine ⟨A, c, h1, h2.fr (frOfGrown hg) (fun h0 a ha hm => (h3 h0 a ha).2 (by simpa using hm)), fun h0 a ha => ⟨(h3 h0 a ha).1, ?_⟩⟩
  rcases hat with e | e
  · rw [e]; exact (h3 h0 a ha).2
  · rw [e]
    have := h2.lt h0 a ha
    intro h
    injection h with h
    omega
theorem RowsR.snoc {A SA : Option Addr} {c sc sn : Nat} {l : List Int} {rows : List (Option Addr × Nat × Nat)} (hrows : ∀ (j : Nat) (l : List Int), L[j]? = some l → ∃ A c, rows[j]? = some (A, l.length, c) ∧ Rd W (.int .i64) A c l ∧ (0 < l.length → ∀ a, A = some a → v.ownBlock ≠ some a.block ∧ u.ownBlock ≠ some a.block))
    (hl : Rd W (.int .i64) A c l) (hla : 0 < l.length → ∀ a, A = some a → v.ownBlock ≠ some a.block ∧ u.ownBlock ≠ some a.block) (hsn : sn = L.length + 1)
    (hrl : rows.length = L.length) (hg : W.grownBy W' v.ownBlock) (hat : (Value.slice SA sn sc).ownBlock = v.ownBlock ∨ (Value.slice SA sn sc).ownBlock = some W.heap.size)
    (ho2 : W'.ownsRow B 22 1 (.slice SA sn sc) sn (rows.map encSl ++ [(A, l.length, c)].map encSl)) : RowsR W' B (.slice SA sn sc) u (L ++ [l]) := by
  subst hsn
  have key : ∀ {A : Option Addr} {c : Nat} {l : List Int}, Rd W (.int .i64) A c l → (0 < l.length → ∀ a, A = some a → v.ownBlock ≠ some a.block ∧ u.ownBlock ≠ some a.block) →
      Rd W' (.int .i64) A c l ∧ (0 < l.length → ∀ a, A = some a → (Value.slice SA (L.length + 1) sc).ownBlock ≠ some a.block ∧ u.ownBlock ≠ some a.block) := fun {A c l} h1 h2 => by
    refine ⟨h1.fr (frOfGrown hg) (fun h0 a ha hm => (h2 h0 a ha).1 (by simpa using hm)), fun h0 a ha => ⟨?_, (h2 h0 a ha).2⟩⟩
    rcases hat with e | e
    · rw [e]; exact (h2 h0 a ha).1
    · rw [e]
      have := h1.lt h0 a ha
      intro h
      injection h with h
      omega
  refine ⟨SA, sc, rows ++ [(A, l.length, c)], by simp, by simp [hrl], by simpa using ho2, fun j l' hj => ?_⟩
  by_cases hlt : j < L.length
  · rw [List.getElem?_append_left hlt] at hj
    obtain ⟨A', c', h1, h2, h3⟩ := hrows j l' hj
    obtain ⟨k1, k2⟩ := key h2 h3
    exact ⟨A', c', by rw [List.getElem?_append_left (by omega)]; exact h1, k1, k2⟩
  · have hj2 := (List.getElem?_eq_some_iff.1 hj).1
    simp at hj2
    obtain rfl : j = L.length := by omega
    simp at hj
    subst hj
    obtain ⟨k1, k2⟩ := key hl hla
    exact ⟨A, c, by rw [← hrl]; simp, k1, k2⟩
theorem RowsR.farQ {g : Nat} {b0 : Bool} {A1 A2 A3 : Option Addr} {n1 n2 n3 m1 m2 m3 : Nat} (h : RowsR W B v u L) (hb : Blk W g 34 #[.bool b0, .slice A1 n1 m1, .slice A2 n2 m2, .slice A3 n3 m3]) (hf : Fr [g] W W') : RowsR W' B v u L := by
  obtain ⟨SA, sc, rows, hv, hl, ho, hr⟩ := h
  refine ⟨SA, sc, rows, hv, hl, own_fr ho hf (fun k hk hm => own_ne_blk ho hb (by decide) k hk (by simpa using hm)), fun j l hl => ?_⟩
  obtain ⟨A, c, h1, h2, h3⟩ := hr j l hl
  exact ⟨A, c, h1, h2.fr hf (fun h0 a ha hm => h2.apartQ hb h0 a ha (by simpa using hm)), h3⟩
theorem RowsR.rss (h : RowsR W B v u L) : ∃ SA sc, v = .slice SA L.length sc ∧ Rss W SA sc L := by
  obtain ⟨SA, sc, rows, rfl, hl, ho, hr⟩ := h
  obtain ⟨_, hrd⟩ := Rd.of_own ho
  refine ⟨SA, sc, rfl, by rw [← hl]; exact hrd.le, hrd.cap, fun h0 => ?_⟩
  obtain ⟨b, off, hA, hc⟩ := hrd.at0 (by omega)
  refine ⟨b, off, hA, fun k l hk => ?_⟩
  obtain ⟨A', c', h1, h2, _⟩ := hr k l hk
  exact ⟨A', c', hc k _ h1, h2⟩
end
/-- A quest in a result's cell, and two slots. -/
theorem results_srch {fn : Func} {p t t' : Tmp} (h : fn.results = #[.cell p 34, .tmp t, .tmp t']) (tmps : Array Value) (w : World) (g : Nat) {a0 a1 a2 a3 : Value} (hp : tmps.getD p undef = .pointer (some ⟨g, 0, none⟩)) (hb : Blk w g 34 #[a0, a1, a2, a3]) :
    (results fn tmps).run Tryd.prog w = .ok (.tuple #[.agg #[a0, a1, a2, a3], tmps.getD t undef, tmps.getD t' undef]) w := by
  have c0 := hb.cell 0 rfl
  have c1 := hb.cell 1 rfl
  have c2 := hb.cell 2 rfl
  have c3 := hb.cell 3 rfl
  simp only [Array.getD_eq_getD_getElem?] at hp
  simp [results, h, go_sem, hp, c0, c1, c2, c3]

/-- Between two questions. -/
def SrInv (w : World) (T : List (List Int)) (say : List Int → Int) (ov : Array Value) (t : Nat) (v1 v2 : Value) (wr : World) : Prop :=
  ∃ (ans : List Int) (A : Option Addr) (c : Nat), Hid (ans = (T.take ans.length).map say) ∧ ans.length ≤ T.length ∧ T.length < ans.length + t ∧ v2 = .slice A ans.length c ∧
    wr.ownsRow w.heap.size 39 1 (.slice A ans.length c) ans.length (ans.map (.int .u8)) ∧ RowsR wr w.heap.size v1 v2 (T.take ans.length) ∧
    Blk wr w.heap.size 30 ov ∧ Blk wr (w.heap.size + 1) 34 #[.bool false, .slice none 0 0, .slice none 0 0, .slice none 0 0] ∧ Fr [] w wr
/-- What searched returns. -/
def RetSrch (w : World) (T : List (List Int)) (r : Qst × Int) (e : Ending) (w' : World) : Prop :=
  ∃ v SA sc, e = .returned (.tuple #[v, .slice SA T.length sc, .int .i64 r.2]) ∧ Fr [] w w' ∧ QstIs w' v r.1 ∧ Rss w' SA sc T

set_option maxRecDepth 100000 in
set_option maxHeartbeats 6400000 in
theorem searched_any (wh : Nat) (n start : Int) (v : Value) (o : Orc) (w : World) (hov : OrcIs w v o) (hg : greatO o = false) (hn : n ≤ 12) (htab : Tab w) :
    Calls Tryd.prog 56 #[.int .u8 wh, v, .int .i64 n, .int .i64 start] w (RetSrch w (lawAsks wh n.toNat start (sayO o)) (lawRes wh n.toNat start (sayO o))) := by
  have ht : ∀ q, told (sayO o q) = sayO o q := sayO_told o
  have hal := lawAsks_le (wh := wh) (start := start) (o := sayO o) (n := n.toNat) (by omega)
  have HAT : Hid (∀ k q, (lawAsks wh n.toNat start (sayO o))[k]? = some q → lawOf wh n start (((lawAsks wh n.toNat start (sayO o)).take k).map (sayO o)) = (⟨false, q, [], []⟩, 0) ∧ q.length ≤ 256) :=
    fun k q hq => ⟨lawAsks_at hn ht hq, by have := (set_inR (lawAsks_set (by omega) (List.mem_of_getElem? hq))).2; omega⟩
  have HEND := Lib.hid (lawAsks_end (wh := wh) (start := start) hn ht)
  obtain ⟨kp, hres⟩ : ∃ kp : Qst × Int, lawRes wh n.toNat start (sayO o) = kp ∧ ((∃ kept pass, kp = (⟨true, [], kept, pass⟩, 0)) ∨ kp = (⟨false, [], [], []⟩, 7)) := by
    refine ⟨_, rfl, ?_⟩
    rcases lawRes_is (wh := wh) (start := start) (n := n.toNat) (by omega) ht with ⟨kept, pass, _, h⟩ | ⟨_, h⟩
    · exact .inl ⟨kept, pass, h⟩
    · exact .inr h
  rw [hres.1] at HEND ⊢
  have hkp := hres.2
  clear hres ht
  generalize lawAsks wh n.toNat start (sayO o) = T at *
  obtain ⟨N, nn, B, b, rfl, hN, hB, hs, hlo⟩ := id hov
  have HG := Lib.hid hg
  have HOV := Lib.hid hov
  clear hg hov
  obtain ⟨W, hW⟩ : ∃ W, W = (w.alloc (.cells #[.slice N o.need.length nn, .slice B o.bar.length b, .int .u64 o.salt, .int .u8 o.loose] 30)).alloc (.cells #[.bool false, .slice none 0 0, .slice none 0 0, .slice none 0 0] 34) := ⟨_, rfl⟩
  have hI : SrInv w T (sayO o) #[.slice N o.need.length nn, .slice B o.bar.length b, .int .u64 o.salt, .int .u8 o.loose] (T.length + 1) (.slice none 0 0) (.slice none 0 0) W := by
    refine ⟨[], none, 0, by show _ = _; simp, Nat.zero_le _, by simp, rfl, World.ownsRow_nil _ _ _ _, RowsR.nil_ _ _ _, ?_, ?_, ?_⟩
    · rw [hW]; exact (Blk.new w _ _ _ rfl).alloc _
    · rw [hW]; exact Blk.new _ _ _ _ (by simp)
    · rw [hW]; exact (by repeat (first | exact Fr.refl _ _ | assumption | apply Fr.drewN | apply Fr.drew | apply Fr.alloc | refine Fr.setCell ?_ (by simp) _))
  have HW := Lib.hid hW.symm
  clear hW
  go_enter Tryd.func56, Tryd.ntmps56
  go_wp2_with fail
  rw [HW.out]
  clear HW
  go_loopg [11, 12] (T.length + 1) (SrInv w T (sayO o) #[.slice N o.need.length nn, .slice B o.bar.length b, .int .u64 o.salt, .int .u8 o.loose])
  case atStart => exact hI
  case round =>
    clear hI
    obtain ⟨ans, A5, c5, hans, hle, hgt, rfl, ho5, hR5, hb5, hQ5, hF5⟩ := hrel
    obtain ⟨t, rfl⟩ : ∃ t, gk = t + 1 := ⟨gk - 1, by omega⟩
    have hr5 : Rd wr (.int .u8) A5 c5 ans := (Rd.of_own ho5).2
    have hlen : ans.length ≤ 4096 := by omega
    rcases hq : T[ans.length]? with _ | q
    · have hTl : T.length = ans.length := by have := List.getElem?_eq_none_iff.1 hq; omega
      have hall : ans = T.map (sayO o) := by
        have h1 := hans.out
        rw [List.take_of_length_le (by omega)] at h1
        exact h1
      have hres := HEND.out
      rw [← hall] at hres
      rw [List.take_of_length_le (by omega)] at hR5
      have HRES := Lib.hid hres
      clear hq hgt hres hall hTl HEND HAT hans
      go_wp2_with fail
      refine (lask_any wh n start A5 c5 ans _ hr5 (htab.fr hF5) (by omega)).mono ?_
      rw [HRES.out]
      rcases hkp with ⟨kept, pass, rfl⟩ | rfl
      · rintro e w6 ⟨v6, rfl, hf6, A1, a1, B1, b1, C1, c1, rfl, ⟨hq1, _⟩, ⟨hq2, _⟩, hq3, _⟩
        obtain ⟨W6, hW6⟩ : ∃ W6, W6 = w6.alloc (.cells #[.bool true, .slice A1 0 a1, .slice B1 kept.length b1, .slice C1 pass.length c1] 34) := ⟨_, rfl⟩
        have hQ : Blk W6 w6.heap.size 34 #[.bool true, .slice A1 0 a1, .slice B1 kept.length b1, .slice C1 pass.length c1] := by rw [hW6]; exact Blk.new _ _ _ _ rfl
        have hf66 : Fr [] w6 W6 := by rw [hW6]; exact (Fr.refl _ _).alloc _
        have hQ6 := (hQ5.fr hf6 (by simp)).fr hf66 (by simp)
        have hF6 := (hF5.trans hf6).trans hf66
        have hR6 := (hR5.fr0 hf6).fr0 hf66
        have g1 := hq1.fr0 hf66
        have g2 := hq2.fr0 hf66
        have g3 := hq3.fr0 hf66
        have HW6 := Lib.hid hW6.symm
        have m0 := hQ.cell 0 rfl
        have m1 := hQ.cell 1 rfl
        have m2 := hQ.cell 2 rfl
        have m3 := hQ.cell 3 rfl
        have qc0 := hQ6.cell 0 rfl
        have qc1 := hQ6.cell 1 rfl
        have qc2 := hQ6.cell 2 rfl
        have qc3 := hQ6.cell 3 rfl
        have qd0 := hQ6.frozen 0
        have qd1 := hQ6.frozen 1
        have qd2 := hQ6.frozen 2
        have qd3 := hQ6.frozen 3
        rw [hW6] at m0 m1 m2 m3 qc0 qc1 qc2 qc3 qd0 qd1 qd2 qd3
        clear hW6
        obtain ⟨SA, sc, hv, _⟩ := hR6.rss
        subst hv
        go_wp2_with fail
        rw [HW6.out]
        refine bodyPost_ret (results_srch rfl _ _ (w.heap.size + 1) rfl (hQ6.four _ _ _ _)) rfl ?_
        obtain ⟨SA', sc', hv', hrss⟩ := (hR6.farQ hQ6 (fr_four (g := w.heap.size + 1) (Fr.refl [w.heap.size + 1] _) (.inl (by simp)) _ _ _ _)).rss
        injection hv' with e1 e2 e3
        subst e1 e3
        exact ⟨_, _, _, rfl, fr_four (g := w.heap.size + 1) hF6 (.inr (by omega)) _ _ _ _, ⟨A1, a1, B1, b1, C1, c1, rfl, g1.four (g1.apartQ hQ6) _ _ _ _, g2.four (g2.apartQ hQ6) _ _ _ _, g3.four (g3.apartQ hQ6) _ _ _ _⟩, hrss⟩
      · rintro e w6 ⟨v6, rfl, hf6, A1, a1, B1, b1, C1, c1, rfl, ⟨hq1, _⟩, ⟨hq2, _⟩, hq3, _⟩
        obtain ⟨W6, hW6⟩ : ∃ W6, W6 = w6.alloc (.cells #[.bool false, .slice A1 0 a1, .slice B1 0 b1, .slice C1 0 c1] 34) := ⟨_, rfl⟩
        have hQ : Blk W6 w6.heap.size 34 #[.bool false, .slice A1 0 a1, .slice B1 0 b1, .slice C1 0 c1] := by rw [hW6]; exact Blk.new _ _ _ _ rfl
        have hf66 : Fr [] w6 W6 := by rw [hW6]; exact (Fr.refl _ _).alloc _
        have hQ6 := (hQ5.fr hf6 (by simp)).fr hf66 (by simp)
        have hF6 := (hF5.trans hf6).trans hf66
        have hR6 := (hR5.fr0 hf6).fr0 hf66
        have g1 := hq1.fr0 hf66
        have g2 := hq2.fr0 hf66
        have g3 := hq3.fr0 hf66
        have HW6 := Lib.hid hW6.symm
        have m0 := hQ.cell 0 rfl
        have m1 := hQ.cell 1 rfl
        have m2 := hQ.cell 2 rfl
        have m3 := hQ.cell 3 rfl
        have qc0 := hQ6.cell 0 rfl
        have qc1 := hQ6.cell 1 rfl
        have qc2 := hQ6.cell 2 rfl
        have qc3 := hQ6.cell 3 rfl
        have qd0 := hQ6.frozen 0
        have qd1 := hQ6.frozen 1
        have qd2 := hQ6.frozen 2
        have qd3 := hQ6.frozen 3
        rw [hW6] at m0 m1 m2 m3 qc0 qc1 qc2 qc3 qd0 qd1 qd2 qd3
        clear hW6
        obtain ⟨SA, sc, hv, _⟩ := hR6.rss
        subst hv
        go_wp2_with fail
        rw [HW6.out]
        refine bodyPost_ret (results_srch rfl _ _ (w.heap.size + 1) rfl (hQ6.four _ _ _ _)) rfl ?_
        obtain ⟨SA', sc', hv', hrss⟩ := (hR6.farQ hQ6 (fr_four (g := w.heap.size + 1) (Fr.refl [w.heap.size + 1] _) (.inl (by simp)) _ _ _ _)).rss
        injection hv' with e1 e2 e3
        subst e1 e3
        exact ⟨_, _, _, rfl, fr_four (g := w.heap.size + 1) hF6 (.inr (by omega)) _ _ _ _, ⟨A1, a1, B1, b1, C1, c1, rfl, g1.four (g1.apartQ hQ6) _ _ _ _, g2.four (g2.apartQ hQ6) _ _ _ _, g3.four (g3.apartQ hQ6) _ _ _ _⟩, hrss⟩
    · obtain ⟨hres, hql⟩ := HAT.out _ _ hq
      rw [← hans.out] at hres
      have HRES := Lib.hid hres
      have HQ := Lib.hid hq
      have hlt2 : ans.length < T.length := (List.getElem?_eq_some_iff.1 hq).1
      have HTK : Hid (T.take (ans.length + 1) = T.take ans.length ++ [q]) := by show _ = _; rw [List.take_add_one, hq]; rfl
      have hTl : Hid ((T.take ans.length).length = ans.length) := by show _ = _; rw [List.length_take]; omega
      have hnx := Lib.hid (ans_next hans HQ)
      clear hres hq HEND HAT hans
      generalize T.take ans.length = Tk at *
      go_wp2_with fail
      refine (lask_any wh n start A5 c5 ans _ hr5 (htab.fr hF5) (by omega)).mono ?_
      rw [HRES.out]
      rintro e w6 ⟨v6, rfl, hf6, A1, a1, B1, b1, C1, c1, rfl, ⟨hq1, hn1⟩, ⟨hq2, _⟩, hq3, _⟩
      obtain ⟨W6, hW6⟩ : ∃ W6, W6 = w6.alloc (.cells #[.bool false, .slice A1 q.length a1, .slice B1 0 b1, .slice C1 0 c1] 34) := ⟨_, rfl⟩
      have hQ : Blk W6 w6.heap.size 34 #[.bool false, .slice A1 q.length a1, .slice B1 0 b1, .slice C1 0 c1] := by rw [hW6]; exact Blk.new _ _ _ _ rfl
      have hf66 : Fr [] w6 W6 := by rw [hW6]; exact (Fr.refl _ _).alloc _
      have hfa := hf6.trans hf66
      have HZ6 : Hid (W6.heap.size = w6.heap.size + 1) := by show _ = _; rw [hW6]; simp
      have g1 := hq1.fr0 hf66
      have HW6 := Lib.hid hW6.symm
      have m0 := hQ.cell 0 rfl
      have m1 := hQ.cell 1 rfl
      rw [hW6] at m0 m1
      clear hW6
      have hla : 0 < q.length → ∀ a, A1 = some a → (Value.slice A5 ans.length c5).ownBlock ≠ some a.block := fun h0 a ha hk => by
        have h1 := hn1 a ha
        have h2 := (ho5.lt _ hk).2
        omega
      obtain ⟨SA, sc, rows, hv, hrl, hown, hrows⟩ := id hR5
      subst hv
      have hla2 : 0 < q.length → ∀ a, A1 = some a → (Value.slice SA Tk.length sc).ownBlock ≠ some a.block := fun h0 a ha hk => by
        have h1 := hn1 a ha
        have h2 := (hown.lt _ hk).2
        omega
      have hR6 := (hR5.fr0 hfa)
      obtain ⟨SA6, sc6, rows6, hv6, hrl6, hown6, hrows6⟩ := hR6
      injection hv6 with e1 e2 e3
      subst e1 e3
      clear e2 hR5 hown hrows hrl rows
      have hb6 := hb5.fr hfa (by simp)
      have hQ6 := hQ5.fr hfa (by simp)
      have hF6 := hF5.trans hfa
      have ho6 := own_fr ho5 hfa (by simp)
      clear hq1 hq2 hq3 hf6 hf66 hb5 hQ5 hF5 ho5 hr5 hn1
      -- the cell of the literal
      obtain ⟨W7, hW7⟩ : ∃ W7, W7 = W6.alloc (.cells #[.slice A1 q.length a1] 22) := ⟨_, rfl⟩
      have hf67 : Fr [] W6 W7 := by rw [hW7]; exact (Fr.refl _ _).alloc _
      have hb7 := hb6.fr hf67 (by simp)
      have hQ7 := hQ6.fr hf67 (by simp)
      have hq7 := hQ.fr hf67 (by simp)
      have hF7 := hF6.trans hf67
      have ho7 := own_fr ho6 hf67 (by simp)
      have hown7 := own_fr hown6 hf67 (by simp)
      have g7 := g1.fr0 hf67
      have hrows7 : ∀ (j : Nat) (l : List Int), Tk[j]? = some l → ∃ A c, rows6[j]? = some (A, l.length, c) ∧ Rd W7 (.int .i64) A c l ∧ (0 < l.length → ∀ a, A = some a → (Value.slice SA Tk.length sc).ownBlock ≠ some a.block ∧ (Value.slice A5 ans.length c5).ownBlock ≠ some a.block) := fun j l hj => by
        obtain ⟨A, c, x1, x2, x3⟩ := hrows6 j l hj
        exact ⟨A, c, x1, x2.fr0 hf67, x3⟩
      have hlit : Rd (W6.alloc (.cells #[.slice A1 q.length a1] 22)) encSl (some ⟨w6.heap.size + 1, 0, none⟩) 1 [(A1, q.length, a1)] := by
        have := Rd.one W6 22 encSl (A1, q.length, a1)
        rw [HZ6.out] at this
        exact this
      have HAP : Hid (∀ (A8 : Option Addr) (c8 sn : Nat) (W8 : World), W8.ownsRow w.heap.size 22 1 (.slice A8 sn c8) sn (rows6.map encSl ++ [(A1, q.length, a1)].map encSl) → W7.grownBy W8 (Value.slice SA Tk.length sc).ownBlock →
          ((Value.slice A8 sn c8).ownBlock = (Value.slice SA Tk.length sc).ownBlock ∨ (Value.slice A8 sn c8).ownBlock = some W7.heap.size) → sn = Tk.length + 1 →
          RowsR W8 w.heap.size (.slice A8 sn c8) (.slice A5 ans.length c5) (Tk ++ [q]) ∧ Blk W8 w.heap.size 30 #[.slice N o.need.length nn, .slice B o.bar.length b, .int .u64 o.salt, .int .u8 o.loose] ∧
          Blk W8 (w.heap.size + 1) 34 #[.bool false, .slice none 0 0, .slice none 0 0, .slice none 0 0] ∧ Blk W8 w6.heap.size 34 #[.bool false, .slice A1 q.length a1, .slice B1 0 b1, .slice C1 0 c1] ∧ Fr [] w W8 ∧
          W8.ownsRow w.heap.size 39 1 (.slice A5 ans.length c5) ans.length (ans.map (.int .u8)) ∧ Rd W8 (.int .i64) A1 a1 q) := fun A8 c8 sn W8 h1 h2 h3 h4 => by
        refine ⟨RowsR.snoc hrows7 g7 (fun h0 a ha => ⟨hla2 h0 a ha, hla h0 a ha⟩) h4 hrl6 h2 h3 h1, ?_, ?_, ?_, ?_, ?_, ?_⟩
        · exact hb7.grown h2 (fun hk => own_ne_blk hown7 hb7 (by decide) w.heap.size hk.symm rfl)
        · exact hQ7.grown h2 (fun hk => own_ne_blk hown7 hQ7 (by decide) (w.heap.size + 1) hk.symm rfl)
        · exact hq7.grown h2 (fun hk => own_ne_blk hown7 hq7 (by decide) w6.heap.size hk.symm rfl)
        · exact hF7.app hown7 (Nat.le_refl _) h2
        · exact own_fr ho7 (frOfGrown h2) (fun k hk hm => own_ne_own ho7 hown7 (by decide) k hk (by simpa using hm))
        · exact g7.fr (frOfGrown h2) (fun h0 a ha hm => hla2 h0 a ha (by simpa using hm))
      have HOWN7 := Lib.hid hown7
      have HLIT := Lib.hid hlit
      have HRL := Lib.hid hrl6
      have hbB : (Tk.length + [(A1, q.length, a1)].length) * 24 ≤ 140737488355328 := by have := hTl.out; simp; omega
      have hbW : w.heap.size ≤ W7.heap.size := hF7.size
      rw [hW7] at HAP hbW HOWN7
      have hz6 := hf67.size
      clear hW7 hb7 hQ7 hq7 hF7 ho7 hown7 g7 hrows7 hlit hrl6 hrows6 hown6 ho6 hF6 hQ6 hb6 g1 hQ hf67
      rw [← HW6.out] at HAP hbW HOWN7 HLIT
      have hn1' := HTK
      go_wp2_with (at_builtin; go_loud (refine wpList_append_rd rfl (.tmp 35) (.tmp 38) _ rfl elemSl (.slice SA Tk.length sc) (rows6.map encSl) rfl HOWN7.out _ 1 [(A1, q.length, a1)] encSl rfl HLIT.out (fun _ => rfl) hbB hbW ?_; intro A8 c8 w8 hown8 hg8 hat8; obtain ⟨hR8, hb8, hQ8, hq8, hF8, ho8, g8⟩ := HAP.out A8 c8 _ w8 hown8 hg8 hat8 (by simp); have e0 := hb8.cell 0 rfl; have e1 := hb8.cell 1 rfl; have e2 := hb8.cell 2 rfl; have e3 := hb8.cell 3 rfl; have m1' := hq8.cell 1 rfl))
      refine (Say_any _ o A1 a1 q _ (HOV.out.fr0 hF8) g8 HG.out).mono ?_
      rintro e w9 ⟨rfl, hf9⟩
      have hR9 := hR8.fr0 hf9
      have hb9 := hb8.fr hf9 (by simp)
      have hQ9 := hQ8.fr hf9 (by simp)
      have hF9 := hF8.trans hf9
      have ho9 := own_fr ho8 hf9 (by simp)
      clear hR8 hb8 hQ8 hq8 hF8 ho8 g8 e0 e1 e2 e3 m1' HAP HOWN7 HLIT hbW hbB m0 m1 hn1'
      generalize sayO o q = sq at *
      have HO9 := Lib.hid (ho9.alloc (.cells #[.int .u8 sq] 39))
      have HR9 := Lib.hid (Rd.one w9 39 (.int .u8) sq)
      have HRR := Lib.hid (hR9.fr0 (((Fr.refl [] w9).alloc (.cells #[.int .u8 sq] 39))))
      clear ho9 hR9
      have hws := hF9.size
      have hbB : (ans.length + [sq].length) * 1 ≤ 140737488355328 := by simp; omega
      have hbW : w.heap.size ≤ (w9.alloc (.cells #[.int .u8 sq] 39)).heap.size := Nat.le_trans hws (by simp)
      go_wp2_with (at_builtin; go_loud (refine wpList_append_rd rfl (.tmp 40) (.tmp 45) _ rfl elemVe (.slice A5 ans.length c5) (ans.map (.int .u8)) rfl HO9.out (some ⟨w9.heap.size, 0, none⟩) 1 [sq] (.int .u8) rfl HR9.out one_u8 hbB hbW ?_; intro A10 c10 w10 ho10 hg10 hat10))
      go_roundg t
      case measure => omega
      case rel =>
        have hF10 : Fr [] w w10 := (hF9.alloc _).app HO9.out (Nat.le_refl _) hg10
        have hbA := (hb9.alloc (.cells #[.int .u8 sq] 39)).grown hg10 (fun hk => own_ne_blk HO9.out (hb9.alloc (.cells #[.int .u8 sq] 39)) (by decide) w.heap.size hk.symm rfl)
        have hQA := (hQ9.alloc (.cells #[.int .u8 sq] 39)).grown hg10 (fun hk => own_ne_blk HO9.out (hQ9.alloc (.cells #[.int .u8 sq] 39)) (by decide) (w.heap.size + 1) hk.symm rfl)
        have hrr := HRR.out.grow HO9.out hg10 hat10
        have htk : T.take (ans ++ [sq]).length = Tk ++ [q] := by rw [List.length_append]; exact HTK.out
        exact ⟨ans ++ [sq], A10, c10, hnx, by simp; omega, by simp; omega, by simp, by simpa using ho10, by rw [htk]; exact hrr, hbA, hQA, hF10⟩
end Go.Proofs.YtjpbmbonccenfaaDoor

/- ReduceIsolated: the walk. -/
namespace Go.Proofs.YtjpbmbonccenfaaDoor
open Go.RowKit
set_option linter.unusedVariables false
set_option linter.unusedSimpArgs false

theorem law_iso {n : Nat} {start : Int} {o : List Int → Int} (hn : n ≤ 256) (ho : ∀ q, told (o q) = o q) :
    (o [] = 1 ∧ o (upTo n) = 2 ∧ ∃ kept pass, lawRes 2 n start o = (⟨true, [], kept, pass⟩, 0) ∧ isSet n kept = true ∧ isSet n pass = true ∧ minus pass kept = [] ∧ o pass = 1 ∧ o kept = 2 ∧ 0 < (minus kept pass).length ∧ (1 < (minus kept pass).length → ∀ x ∈ minus kept pass, o (plus pass [x]) = 3 ∧ o (minus kept [x]) = 3)) ∨
    (¬ (o [] = 1 ∧ o (upTo n) = 2) ∧ lawRes 2 n start o = (⟨false, [], [], []⟩, 7)) := by
  have h := differT_ok hn ho
  have e : lawT 2 n start = differT n := by unfold lawT; rw [if_neg (by decide), if_neg (by decide), if_pos rfl]
  by_cases h2 : o [] = 1 ∧ o (upTo n) = 2
  · rw [if_pos h2] at h
    refine .inl ⟨h2.1, h2.2, ((differT n).res o).2.1, ((differT n).res o).2.2, ?_, h.inv.fs, h.inv.ps, minus_nil.2 h.inv.sub, h.pass, h.fails, ?_, fun h1 => ?_⟩
    · unfold lawRes
      rw [e, h.er]
      rfl
    · rcases Nat.eq_zero_or_pos (minus ((differT n).res o).2.1 ((differT n).res o).2.2).length with h0 | h0
      · exfalso
        have h3 := minus_nil.1 (List.eq_nil_of_length_eq_zero h0)
        have he : ((differT n).res o).2.1 = ((differT n).res o).2.2 := sorted_ext (isSet_iff.1 h.inv.fs).2 (isSet_iff.1 h.inv.ps).2 fun x => ⟨h3 x, h.inv.sub x⟩
        have a := h.pass
        have b := h.fails
        rw [he] at b
        omega
      · exact h0
    · rcases h.one with h3 | h3
      · omega
      · exact h3
  · rw [if_neg h2] at h
    refine .inr ⟨h2, ?_⟩
    unfold lawRes
    rw [e, h]
    rfl

set_option maxRecDepth 100000 in
set_option maxHeartbeats 6400000 in
theorem LIso_any (v : Value) (o : Orc) (n : Int) (w : World) (hov : OrcIs w v o) (htab : Tab w) :
    Calls Tryd.prog 13 #[v, .int .i64 n] w (RetV w (.bool true)) := by
  obtain ⟨N, nn, B, b, rfl, hN, hB, hs, hlo⟩ := id hov
  have HOV := Lib.hid hov
  clear hov
  obtain ⟨W, hW⟩ : ∃ W, W = w.alloc (.cells #[.slice N o.need.length nn, .slice B o.bar.length b, .int .u64 o.salt, .int .u8 o.loose] 30) := ⟨_, rfl⟩
  have hFW : Fr [] w W := by rw [hW]; exact (Fr.refl _ _).alloc _
  have hbk : Blk W w.heap.size 30 #[.slice N o.need.length nn, .slice B o.bar.length b, .int .u64 o.salt, .int .u8 o.loose] := by rw [hW]; exact Blk.new _ _ _ _ rfl
  have HW := Lib.hid hW.symm
  clear hW
  by_cases h9 : 8 < n
  · have d9 : decide (8 < n) = true := by simpa using h9
    go_enter Tryd.func13, Tryd.ntmps13
    go_wp2_with fail
    rw [HW.out]
    refine (awake_any _ (htab.fr hFW)).mono ?_
    rintro e w2 ⟨rfl, hf2⟩
    go_wp2
    go_ret
    exact ⟨rfl, hFW.trans hf2⟩
  · have d9 : decide (8 < n) = false := by simpa using h9
    have hn9 : n ≤ 8 := by omega
    clear h9
    have hgc := Great_any _ o W (HOV.out.fr0 hFW)
    rcases hg : greatO o with _ | _
    · have HG := Lib.hid hg
      rw [hg] at hgc
      clear hg
      have e0 := hbk.cell 0 rfl
      have e1 := hbk.cell 1 rfl
      have e2 := hbk.cell 2 rfl
      have e3 := hbk.cell 3 rfl
      rw [← HW.out] at e0 e1 e2 e3
      go_enter Tryd.func13, Tryd.ntmps13
      go_wp2_with fail
      rw [HW.out]
      refine hgc.mono ?_
      rintro e w1 ⟨rfl, hf1⟩
      have hF1 := hFW.trans hf1
      have hb1 := hbk.fr hf1 (by simp)
      clear hgc hf1 hbk hFW e0 e1 e2 e3 HW
      have hL := law_iso (n := n.toNat) (start := 0) (o := sayO o) (by omega) (sayO_told o)
      have hS := searched_any 2 n 0 _ o w1 (HOV.out.fr0 hF1) HG.out (by omega) (htab.fr hF1)
      have hAC := fun W' => refAll_any n W' (by omega)
      have hmx : max n 0 = ((n.toNat : Nat) : Int) := by omega
      have hm9 : n.toNat ≤ 8 := by omega
      generalize lawRes 2 n.toNat 0 (sayO o) = r at *
      generalize lawAsks 2 n.toNat 0 (sayO o) = T at *
      obtain ⟨all, hall⟩ : ∃ all, all = upTo n.toNat := ⟨_, rfl⟩
      rw [← hall] at hL hAC
      have HAC := Lib.hid hAC
      clear hall hAC
      generalize n.toNat = m at *
      have e0 := hb1.cell 0 rfl
      have e1 := hb1.cell 1 rfl
      have e2 := hb1.cell 2 rfl
      have e3 := hb1.cell 3 rfl
      rcases hL with ⟨ho1, ho2, kept, pass, rfl, hks, hps, hpk, hp1, hk2, hd0, hd1⟩ | ⟨hno, rfl⟩
      · have HO1 := Lib.hid ho1
        have HO2 := Lib.hid ho2
        have HKS := Lib.hid hks
        have HPS := Lib.hid hps
        have HPK := Lib.hid hpk
        have HP1 := Lib.hid hp1
        have HK2 := Lib.hid hk2
        have HD1 := Lib.hid hd1
        have hkl := (set_inR hks).2
        have hpl := (set_inR hps).2
        clear ho1 ho2 hks hps hpk hp1 hk2 hd1
        go_wp2_with fail
        refine hS.mono ?_
        rintro e w6 ⟨v6, S6, s6, rfl, hf6, ⟨A1, a1, B1, b1, C1, c1, rfl, hq1, hq2, hq3⟩, hT⟩
        obtain ⟨W6, hW6⟩ : ∃ W6, W6 = w6.alloc (.cells #[.bool true, .slice A1 0 a1, .slice B1 kept.length b1, .slice C1 pass.length c1] 34) := ⟨_, rfl⟩
        have hQ : Blk W6 w6.heap.size 34 #[.bool true, .slice A1 0 a1, .slice B1 kept.length b1, .slice C1 pass.length c1] := by rw [hW6]; exact Blk.new _ _ _ _ rfl
        have hf66 : Fr [] w6 W6 := by rw [hW6]; exact (Fr.refl _ _).alloc _
        have hfa := hf6.trans hf66
        have hb6 := hb1.fr hfa (by simp)
        have hF6 := hF1.trans hfa
        have hk6 := hq2.fr0 hf66
        have hp6 := hq3.fr0 hf66
        have HW6 := Lib.hid hW6.symm
        clear hW6 hq1 hq2 hq3 hT e0 e1 e2 e3 hS
        have e0 := hb6.cell 0 rfl
        have e1 := hb6.cell 1 rfl
        have e2 := hb6.cell 2 rfl
        have e3 := hb6.cell 3 rfl
        go_wp2_with fail
        rw [HW6.out]
        go_region_held3 (fun w' => w'.cell? ⟨w.heap.size, 0, none⟩ = some (.slice N o.need.length nn) ∧ w'.cell? ⟨w.heap.size, 1, none⟩ = some (.slice B o.bar.length b) ∧ w'.cell? ⟨w.heap.size, 2, none⟩ = some (.int .u64 o.salt) ∧ w'.cell? ⟨w.heap.size, 3, none⟩ = some (.int .u8 o.loose))
          (first
            | go_keep
            | exact ⟨hFa.cell e0 (by simp), hFa.cell e1 (by simp), hFa.cell e2 (by simp), hFa.cell e3 (by simp)⟩
            | exact ⟨hFb.cell e0 (by simp), hFb.cell e1 (by simp), hFb.cell e2 (by simp), hFb.cell e3 (by simp)⟩
            | exact ⟨hFc.cell e0 (by simp), hFc.cell e1 (by simp), hFc.cell e2 (by simp), hFc.cell e3 (by simp)⟩)
          (first
            | (go_at_call 23; (with_reducible show Calls _ _ #[_, .slice none 0 0] _ _); refine (Say_any _ o none 0 [] _ (HOV.out.fr0 (Fr.trans hF6 (by repeat (first | exact Fr.refl _ _ | assumption | apply Fr.drewN | apply Fr.drew | apply Fr.alloc | refine Fr.setCell ?_ (by simp) _)))) (Rd.nil_ _ _) HG.out).mono ?_; rw [HO1.out]; rintro e w8 ⟨rfl, hfa8⟩; have hFa : Fr [] W6 w8 := (Fr.trans (by repeat (first | exact Fr.refl _ _ | assumption | apply Fr.drewN | apply Fr.drew | apply Fr.alloc | refine Fr.setCell ?_ (by simp) _)) hfa8))
            | (go_at_call 42; refine (HAC.out _).mono ?_; rintro e w7 ⟨A7, c7, rfl, hfb7, ho7⟩; have hFb : Fr [] W6 w7 := (Fr.trans (by repeat (first | exact Fr.refl _ _ | assumption | apply Fr.drewN | apply Fr.drew | apply Fr.alloc | refine Fr.setCell ?_ (by simp) _)) hfb7))
            | (go_at_call 23; (with_reducible show Calls _ _ #[_, .slice A7 all.length c7] _ _); refine (Say_any _ o A7 c7 all _ (HOV.out.fr0 (Fr.trans hF6 (by repeat (first | exact Fr.refl _ _ | assumption | apply Fr.drewN | apply Fr.drew | apply Fr.alloc | refine Fr.setCell ?_ (by simp) _)))) ((Rd.of_own ho7).2.fr0 (by repeat (first | exact Fr.refl _ _ | assumption | apply Fr.drewN | apply Fr.drew | apply Fr.alloc | refine Fr.setCell ?_ (by simp) _))) HG.out).mono ?_; rw [HO2.out]; rintro e w9 ⟨rfl, hfc9⟩; have hFc : Fr [] W6 w9 := (Fr.trans (by repeat (first | exact Fr.refl _ _ | assumption | apply Fr.drewN | apply Fr.drew | apply Fr.alloc | refine Fr.setCell ?_ (by simp) _)) hfc9)))
        have hF9 := hF6.trans hFc
        have hb9 := hb6.fr hFc (by simp)
        have hQ9 := hQ.fr hFc (by simp)
        have hk9 := hk6.fr0 hFc
        have hp9 := hp6.fr0 hFc
        clear e0 e1 e2 e3 hFa hFb hFc hfa8 hfb7 hfc9 ho7 hb6 hQ hk6 hp6 hF6
        -- the or-chain
        have q2 := hQ9.cell 2 rfl
        go_wp2_with fail
        refine (Set_any B1 b1 kept m _ hk9).mono ?_
        rw [HKS.out]
        rintro e w10 ⟨rfl, n10, rfl⟩
        have hf10 : Fr [] w9 (w9.drewN n10) := (Fr.refl _ _).drewN n10
        have hF10 := hF9.trans hf10
        have hb10 := hb9.fr hf10 (by simp)
        have hQ10 := hQ9.fr hf10 (by simp)
        have hk10 := hk9.fr0 hf10
        have hp10 := hp9.fr0 hf10
        clear q2 hf10 hF9 hb9 hQ9 hk9 hp9
        have q2 := hQ10.cell 2 rfl
        have q3 := hQ10.cell 3 rfl
        generalize w9.drewN n10 = w10 at *
        go_wp2_with fail
        refine (Minus_any C1 B1 c1 b1 pass kept w10 hp10 hk10 (by omega)).mono ?_
        rw [HPK.out]
        rintro e w11 ⟨A11, c11, rfl, hf11, _⟩
        have hF11 := hF10.trans hf11
        have hb11 := hb10.fr hf11 (by simp)
        have hQ11 := hQ10.fr hf11 (by simp)
        have hk11 := hk10.fr0 hf11
        have hp11 := hp10.fr0 hf11
        clear q2 q3 hf11 hF10 hb10 hQ10 hk10 hp10
        have q3 := hQ11.cell 3 rfl
        have e0 := hb11.cell 0 rfl
        have e1 := hb11.cell 1 rfl
        have e2 := hb11.cell 2 rfl
        have e3 := hb11.cell 3 rfl
        go_wp2_with fail
        refine (Say_any _ o C1 c1 pass w11 (HOV.out.fr0 hF11) hp11 HG.out).mono ?_
        rw [HP1.out]
        rintro e w12 ⟨rfl, hf12⟩
        have hF12 := hF11.trans hf12
        have hb12 := hb11.fr hf12 (by simp)
        have hQ12 := hQ11.fr hf12 (by simp)
        have hk12 := hk11.fr0 hf12
        have hp12 := hp11.fr0 hf12
        clear q3 e0 e1 e2 e3 hf12 hF11 hb11 hQ11 hk11 hp11
        have q2 := hQ12.cell 2 rfl
        have e0 := hb12.cell 0 rfl
        have e1 := hb12.cell 1 rfl
        have e2 := hb12.cell 2 rfl
        have e3 := hb12.cell 3 rfl
        go_wp2_with fail
        refine (Say_any _ o B1 b1 kept w12 (HOV.out.fr0 hF12) hk12 HG.out).mono ?_
        rw [HK2.out]
        rintro e w13 ⟨rfl, hf13⟩
        have hF13 := hF12.trans hf13
        have hb13 := hb12.fr hf13 (by simp)
        have hQ13 := hQ12.fr hf13 (by simp)
        have hk13 := hk12.fr0 hf13
        have hp13 := hp12.fr0 hf13
        clear q2 e0 e1 e2 e3 hf13 hF12 hb12 hQ12 hk12 hp12
        have q2 := hQ13.cell 2 rfl
        have q3 := hQ13.cell 3 rfl
        obtain ⟨d, hd⟩ : ∃ d, minus kept pass = d := ⟨_, rfl⟩
        have hmc : ∀ W', Fr [] w13 W' → Calls Tryd.prog 22 #[.slice B1 kept.length b1, .slice C1 pass.length c1] W' (RetN W' 3 d) := fun W' hf => by
          rw [← hd]
          exact (Minus_any _ _ b1 c1 kept pass W' (hk13.fr0 hf) (hp13.fr0 hf) (by omega)).mono fun e w' h => h.n
        have hdl : d.length ≤ 256 := by rw [← hd]; have := minus_le kept pass; omega
        rw [hd] at hd0 HD1
        have HMC := Lib.hid hmc
        clear hd hmc
        go_wp2_with fail
        refine (HMC.out _ (Fr.refl _ _)).mono ?_
        rintro e w14 ⟨A14, c14, rfl, hf14, ho14⟩
        have hF14 := hF13.trans hf14
        have hb14 := hb13.fr hf14 (by simp)
        have hQ14 := hQ13.fr hf14 (by simp)
        have hk14 := hk13.fr0 hf14
        have hp14 := hp13.fr0 hf14
        have hd14 : Rd w14 (.int .i64) A14 c14 d := (Rd.of_own ho14).2
        clear q2 q3 hf14 hF13 hb13 hQ13 hk13 hp13 ho14 HMC
        go_wp2_with fail
        go_loopw [9] (fun i wr' => ∃ k : Nat, k ≤ d.length ∧ i = .int .i64 k ∧ Fr [] w14 wr') (fun i _ => d.length - (intOf i).toNat)
        case atStart => exact ⟨0, Nat.zero_le _, rfl, Fr.refl _ _⟩
        case round =>
          obtain ⟨k, hk, rfl, hf⟩ := hrel
          have hbk := hb14.fr hf (by simp)
          have hQk := hQ14.fr hf (by simp)
          have hkk := hk14.fr0 hf
          have hpk := hp14.fr0 hf
          have hdk := hd14.fr0 hf
          have hFk := hF14.trans hf
          by_cases hlt : k < d.length ∧ 1 < d.length
          · obtain ⟨hlt, h1d⟩ := hlt
            obtain ⟨b7, o7, x, rfl, hx, hc7⟩ := hdk.at_ hlt
            obtain ⟨hx1, hx2⟩ := HD1.out h1d x (List.mem_of_getElem? hx.out)
            obtain ⟨pq, hpq⟩ : ∃ q, plus pass [x] = q := ⟨_, rfl⟩
            obtain ⟨mq, hmq⟩ : ∃ q, minus kept [x] = q := ⟨_, rfl⟩
            rw [hpq] at hx1
            rw [hmq] at hx2
            have HX1 := Lib.hid hx1
            have HX2 := Lib.hid hx2
            have hpc : ∀ (W' : World) (g : Nat), Rd W' (.int .i64) (some ⟨g, 0, none⟩) 1 [x] → Fr [] wr W' → Calls Tryd.prog 59 #[.slice C1 pass.length c1, .slice (some ⟨g, 0, none⟩) 1 1] W' (RetN W' 3 pq) := fun W' g h1 h2 => by
              rw [← hpq]
              exact Plus_any _ _ c1 1 pass [x] W' (hpk.fr0 h2) h1 (by omega) (by simp)
            have hmc : ∀ (W' : World) (g : Nat), Rd W' (.int .i64) (some ⟨g, 0, none⟩) 1 [x] → Fr [] wr W' → Calls Tryd.prog 22 #[.slice B1 kept.length b1, .slice (some ⟨g, 0, none⟩) 1 1] W' (RetN W' 3 mq) := fun W' g h1 h2 => by
              rw [← hmq]
              exact (Minus_any _ _ b1 1 kept [x] W' (hkk.fr0 h2) h1 (by omega)).mono fun e w' h => h.n
            have HPC := Lib.hid hpc
            have HMC := Lib.hid hmc
            have hd1' : decide (1 < (d.length : Int)) = true := by simp; omega
            clear hpc hmc hx1 hx2 hpq hmq
            obtain ⟨W9, hW9⟩ : ∃ W9, W9 = wr.alloc (.cells #[.int .i64 x] 3) := ⟨_, rfl⟩
            have hl9 : Rd W9 (.int .i64) (some ⟨wr.heap.size, 0, none⟩) 1 [x] := by rw [hW9]; exact Rd.lit wr 3 (.int .i64) [x] _ rfl (by simp)
            have hf9 : Fr [] wr W9 := by rw [hW9]; exact (Fr.refl _ _).alloc _
            have hb9 := hbk.fr hf9 (by simp)
            have hQ9 := hQk.fr hf9 (by simp)
            have hF9 := hFk.trans hf9
            have HW9 := Lib.hid hW9.symm
            clear hW9
            have e0 := hb9.cell 0 rfl
            have e1 := hb9.cell 1 rfl
            have e2 := hb9.cell 2 rfl
            have e3 := hb9.cell 3 rfl
            have q2 := hQ9.cell 2 rfl
            have q3 := hQ9.cell 3 rfl
            go_wp2_with fail
            rw [HW9.out]
            go_region_held3 (fun w' => w'.cell? ⟨w.heap.size, 0, none⟩ = some (.slice N o.need.length nn) ∧ w'.cell? ⟨w.heap.size, 1, none⟩ = some (.slice B o.bar.length b) ∧ w'.cell? ⟨w.heap.size, 2, none⟩ = some (.int .u64 o.salt) ∧ w'.cell? ⟨w.heap.size, 3, none⟩ = some (.int .u8 o.loose) ∧ w'.cell? ⟨w6.heap.size, 2, none⟩ = some (.slice B1 kept.length b1) ∧ w'.cell? ⟨w6.heap.size, 3, none⟩ = some (.slice C1 pass.length c1))
              (first
                | go_keep
                | exact ⟨hFa.cell e0 (by simp), hFa.cell e1 (by simp), hFa.cell e2 (by simp), hFa.cell e3 (by simp), hFa.cell q2 (by simp), hFa.cell q3 (by simp)⟩
                | exact ⟨hFb.cell e0 (by simp), hFb.cell e1 (by simp), hFb.cell e2 (by simp), hFb.cell e3 (by simp), hFb.cell q2 (by simp), hFb.cell q3 (by simp)⟩
                | exact ⟨hFc.cell e0 (by simp), hFc.cell e1 (by simp), hFc.cell e2 (by simp), hFc.cell e3 (by simp), hFc.cell q2 (by simp), hFc.cell q3 (by simp)⟩
                | exact ⟨hFd.cell e0 (by simp), hFd.cell e1 (by simp), hFd.cell e2 (by simp), hFd.cell e3 (by simp), hFd.cell q2 (by simp), hFd.cell q3 (by simp)⟩)
              (first
                | (go_at_call 59; refine (HPC.out _ _ (hl9.fr0 (by repeat (first | exact Fr.refl _ _ | assumption | apply Fr.drewN | apply Fr.drew | apply Fr.alloc | refine Fr.setCell ?_ (by simp) _))) (Fr.trans hf9 (by repeat (first | exact Fr.refl _ _ | assumption | apply Fr.drewN | apply Fr.drew | apply Fr.alloc | refine Fr.setCell ?_ (by simp) _)))).mono ?_; rintro e wa ⟨A7, c7, rfl, hfa, ho7⟩; have hFa : Fr [] W9 wa := (Fr.trans (by repeat (first | exact Fr.refl _ _ | assumption | apply Fr.drewN | apply Fr.drew | apply Fr.alloc | refine Fr.setCell ?_ (by simp) _)) hfa))
                | (go_at_call 23; (with_reducible show Calls _ _ #[_, .slice A7 pq.length c7] _ _); refine (Say_any _ o A7 c7 pq _ (HOV.out.fr0 (Fr.trans hF9 (by repeat (first | exact Fr.refl _ _ | assumption | apply Fr.drewN | apply Fr.drew | apply Fr.alloc | refine Fr.setCell ?_ (by simp) _)))) ((Rd.of_own ho7).2.fr0 (by repeat (first | exact Fr.refl _ _ | assumption | apply Fr.drewN | apply Fr.drew | apply Fr.alloc | refine Fr.setCell ?_ (by simp) _))) HG.out).mono ?_; rw [HX1.out]; rintro e wb ⟨rfl, hfb⟩; have hFb : Fr [] W9 wb := (Fr.trans (by repeat (first | exact Fr.refl _ _ | assumption | apply Fr.drewN | apply Fr.drew | apply Fr.alloc | refine Fr.setCell ?_ (by simp) _)) hfb))
                | (go_at_call 22; refine (HMC.out _ _ (hl9.fr0 (by repeat (first | exact Fr.refl _ _ | assumption | apply Fr.drewN | apply Fr.drew | apply Fr.alloc | refine Fr.setCell ?_ (by simp) _))) (Fr.trans hf9 (by repeat (first | exact Fr.refl _ _ | assumption | apply Fr.drewN | apply Fr.drew | apply Fr.alloc | refine Fr.setCell ?_ (by simp) _)))).mono ?_; rintro e wc ⟨A8, c8, rfl, hfc, ho8⟩; have hFc : Fr [] W9 wc := (Fr.trans (by repeat (first | exact Fr.refl _ _ | assumption | apply Fr.drewN | apply Fr.drew | apply Fr.alloc | refine Fr.setCell ?_ (by simp) _)) hfc))
                | (go_at_call 23; (with_reducible show Calls _ _ #[_, .slice A8 mq.length c8] _ _); refine (Say_any _ o A8 c8 mq _ (HOV.out.fr0 (Fr.trans hF9 (by repeat (first | exact Fr.refl _ _ | assumption | apply Fr.drewN | apply Fr.drew | apply Fr.alloc | refine Fr.setCell ?_ (by simp) _)))) ((Rd.of_own ho8).2.fr0 (by repeat (first | exact Fr.refl _ _ | assumption | apply Fr.drewN | apply Fr.drew | apply Fr.alloc | refine Fr.setCell ?_ (by simp) _))) HG.out).mono ?_; rw [HX2.out]; rintro e wd ⟨rfl, hfd⟩; have hFd : Fr [] W9 wd := (Fr.trans (by repeat (first | exact Fr.refl _ _ | assumption | apply Fr.drewN | apply Fr.drew | apply Fr.alloc | refine Fr.setCell ?_ (by simp) _)) hfd)))
            go_wp2_with fail
            go_roundw
            case rel => exact ⟨k + 1, by omega, by go_num, (hf.trans hf9).trans hFd⟩
            case measure => simp [intOf]; omega
          · have hdp : decide (0 < (d.length : Int)) = true := by simp; omega
            by_cases hlt1 : k < d.length
            · have hd1' : decide (1 < (d.length : Int)) = false := by simp; omega
              go_wp2_with fail
              refine (awake_any _ (htab.fr hFk)).mono ?_
              rintro e w20 ⟨rfl, hf20⟩
              go_wp2
              go_ret
              exact ⟨rfl, hFk.trans hf20⟩
            · go_wp2_with fail
              refine (awake_any _ (htab.fr hFk)).mono ?_
              rintro e w20 ⟨rfl, hf20⟩
              go_wp2
              go_ret
              exact ⟨rfl, hFk.trans hf20⟩
      · have HNO := Lib.hid hno
        clear hno
        go_wp2_with fail
        refine hS.mono ?_
        rintro e w6 ⟨v6, S6, s6, rfl, hf6, ⟨A1, a1, B1, b1, C1, c1, rfl, hq1, hq2, hq3⟩, hT⟩
        obtain ⟨W6, hW6⟩ : ∃ W6, W6 = w6.alloc (.cells #[.bool false, .slice A1 0 a1, .slice B1 0 b1, .slice C1 0 c1] 34) := ⟨_, rfl⟩
        have hf66 : Fr [] w6 W6 := by rw [hW6]; exact (Fr.refl _ _).alloc _
        have hfa := hf6.trans hf66
        have hb6 := hb1.fr hfa (by simp)
        have hF6 := hF1.trans hfa
        have HW6 := Lib.hid hW6.symm
        clear hW6 hq1 hq2 hq3 hT e0 e1 e2 e3 hS
        have e0 := hb6.cell 0 rfl
        have e1 := hb6.cell 1 rfl
        have e2 := hb6.cell 2 rfl
        have e3 := hb6.cell 3 rfl
        by_cases hn1 : sayO o [] = 1
        · have hn2 : (sayO o all != 2) = true := by simpa using fun h => HNO.out ⟨hn1, h⟩
          have HN1 := Lib.hid hn1
          clear hn1
          go_wp2_with fail
          rw [HW6.out]
          go_region_held3 (fun w' => w'.cell? ⟨w.heap.size, 0, none⟩ = some (.slice N o.need.length nn) ∧ w'.cell? ⟨w.heap.size, 1, none⟩ = some (.slice B o.bar.length b) ∧ w'.cell? ⟨w.heap.size, 2, none⟩ = some (.int .u64 o.salt) ∧ w'.cell? ⟨w.heap.size, 3, none⟩ = some (.int .u8 o.loose))
            (first
              | go_keep
              | exact ⟨hFa.cell e0 (by simp), hFa.cell e1 (by simp), hFa.cell e2 (by simp), hFa.cell e3 (by simp)⟩
              | exact ⟨hFb.cell e0 (by simp), hFb.cell e1 (by simp), hFb.cell e2 (by simp), hFb.cell e3 (by simp)⟩
              | exact ⟨hFc.cell e0 (by simp), hFc.cell e1 (by simp), hFc.cell e2 (by simp), hFc.cell e3 (by simp)⟩)
            (first
              | (go_at_call 23; (with_reducible show Calls _ _ #[_, .slice none 0 0] _ _); refine (Say_any _ o none 0 [] _ (HOV.out.fr0 (Fr.trans hF6 (by repeat (first | exact Fr.refl _ _ | assumption | apply Fr.drewN | apply Fr.drew | apply Fr.alloc | refine Fr.setCell ?_ (by simp) _)))) (Rd.nil_ _ _) HG.out).mono ?_; rw [HN1.out]; rintro e w8 ⟨rfl, hfa8⟩; have hFa : Fr [] W6 w8 := (Fr.trans (by repeat (first | exact Fr.refl _ _ | assumption | apply Fr.drewN | apply Fr.drew | apply Fr.alloc | refine Fr.setCell ?_ (by simp) _)) hfa8))
              | (go_at_call 42; refine (HAC.out _).mono ?_; rintro e w7 ⟨A7, c7, rfl, hfb7, ho7⟩; have hFb : Fr [] W6 w7 := (Fr.trans (by repeat (first | exact Fr.refl _ _ | assumption | apply Fr.drewN | apply Fr.drew | apply Fr.alloc | refine Fr.setCell ?_ (by simp) _)) hfb7))
              | (go_at_call 23; (with_reducible show Calls _ _ #[_, .slice A7 all.length c7] _ _); refine (Say_any _ o A7 c7 all _ (HOV.out.fr0 (Fr.trans hF6 (by repeat (first | exact Fr.refl _ _ | assumption | apply Fr.drewN | apply Fr.drew | apply Fr.alloc | refine Fr.setCell ?_ (by simp) _)))) ((Rd.of_own ho7).2.fr0 (by repeat (first | exact Fr.refl _ _ | assumption | apply Fr.drewN | apply Fr.drew | apply Fr.alloc | refine Fr.setCell ?_ (by simp) _))) HG.out).mono ?_; rintro e w9 ⟨rfl, hfc9⟩; have hFc : Fr [] W6 w9 := (Fr.trans (by repeat (first | exact Fr.refl _ _ | assumption | apply Fr.drewN | apply Fr.drew | apply Fr.alloc | refine Fr.setCell ?_ (by simp) _)) hfc9)))
          go_wp2_with fail
          refine (awake_any _ (htab.fr (hF6.trans hFc))).mono ?_
          rintro e w20 ⟨rfl, hf20⟩
          go_wp2
          go_ret
          exact ⟨rfl, (hF6.trans hFc).trans hf20⟩
        · rcases (show sayO o [] = 2 ∨ sayO o [] = 3 by rcases sayO_in o [] with h | h | h <;> omega) with hn3 | hn3
          · have HN1 := Lib.hid hn3
            clear hn1 hn3
            go_wp2_with fail
            rw [HW6.out]
            refine wp_region_held_drew (S := fun w' => w'.cell? ⟨w.heap.size, 0, none⟩ = some (.slice N o.need.length nn) ∧ w'.cell? ⟨w.heap.size, 1, none⟩ = some (.slice B o.bar.length b) ∧ w'.cell? ⟨w.heap.size, 2, none⟩ = some (.int .u64 o.salt) ∧ w'.cell? ⟨w.heap.size, 3, none⟩ = some (.int .u8 o.loose)) (by kernel_rfl) ⟨e0, e1, e2, e3⟩ (fun hHeld => ?_)
            refine wpAnyH_take (i := 0) (v := .agg #[.slice N o.need.length nn, .slice B o.bar.length b, .int .u64 o.salt, .int .u8 o.loose]) rfl (by kernel_rfl) (by kernel_rfl) (by kernel_rfl) (fun _ _ _ h => h) (Or.inl ⟨by rfl, fun w hSw => ?_⟩) (by assumption) ?_
            · (try dsimp only at hSw); go_simp
            try simp only [List.getElem_toArray, List.getElem_cons_succ, List.getElem_cons_zero, Act.put, List.setIfInBounds_toArray, List.set_cons_zero, List.set_cons_succ]
            refine wpAnyH_ready (rs := [1]) (by kernel_rfl) (by simp) ?_
            refine AllReadyH.cons rfl (fun K hK => ?_) AllReadyH.nil
            go_simp
            refine (Say_any _ o none 0 [] _ (HOV.out.fr0 (Fr.trans hF6 ((Fr.refl _ _).drew))) (Rd.nil_ _ _) HG.out).mono ?_
            rw [HN1.out]
            rintro e w8 ⟨rfl, hfa8⟩
            have hFa : Fr [] W6 w8 := ((Fr.refl _ _).drew).trans hfa8
            refine hK.out _ _ (⟨hFa.cell e0 (by simp), hFa.cell e1 (by simp), hFa.cell e2 (by simp), hFa.cell e3 (by simp)⟩) (fun hHeld2 => ?_)
            clear hK K hHeld
            have hHeld := hHeld2
            clear hHeld2
            try simp only [Act.put, List.setIfInBounds_toArray, List.set_cons_zero, List.set_cons_succ]
            refine wpAnyH_take (i := 2) (v := .bool true) rfl (by kernel_rfl) (by kernel_rfl) (by kernel_rfl) (fun _ _ _ h => h) (Or.inl ⟨by rfl, fun w hSw => ?_⟩) (by assumption) ?_
            · (try dsimp only at hSw); go_simp
            try simp only [List.getElem_toArray, List.getElem_cons_succ, List.getElem_cons_zero, Act.put, List.setIfInBounds_toArray, List.set_cons_zero, List.set_cons_succ]
            refine wpAnyH_take (i := 3) (v := .bool true) rfl (by kernel_rfl) (by kernel_rfl) (by kernel_rfl) (fun _ _ _ h => h) (Or.inl ⟨by rfl, fun w hSw => ?_⟩) (by assumption) ?_
            · (try dsimp only at hSw); go_simp
            try simp only [List.getElem_toArray, List.getElem_cons_succ, List.getElem_cons_zero, Act.put, List.setIfInBounds_toArray, List.set_cons_zero, List.set_cons_succ]
            refine wpAnyH_take (i := 4) (v := undef) rfl (by kernel_rfl) (by kernel_rfl) (by kernel_rfl) (fun _ _ _ h => h) (Or.inr ⟨by rfl, rfl⟩) (by assumption) ?_
            try simp only [List.getElem_toArray, List.getElem_cons_succ, List.getElem_cons_zero, Act.put, List.setIfInBounds_toArray, List.set_cons_zero, List.set_cons_succ]
            refine wpAnyH_take (i := 5) (v := undef) rfl (by kernel_rfl) (by kernel_rfl) (by kernel_rfl) (fun _ _ _ h => h) (Or.inr ⟨by rfl, rfl⟩) (by assumption) ?_
            try simp only [List.getElem_toArray, List.getElem_cons_succ, List.getElem_cons_zero, Act.put, List.setIfInBounds_toArray, List.set_cons_zero, List.set_cons_succ]
            refine wpAnyH_take (i := 6) (v := undef) rfl (by kernel_rfl) (by kernel_rfl) (by kernel_rfl) (fun _ _ _ h => h) (Or.inr ⟨by rfl, rfl⟩) (by assumption) ?_
            try simp only [List.getElem_toArray, List.getElem_cons_succ, List.getElem_cons_zero, Act.put, List.setIfInBounds_toArray, List.set_cons_zero, List.set_cons_succ]
            refine wpAnyH_take (i := 7) (v := undef) rfl (by kernel_rfl) (by kernel_rfl) (by kernel_rfl) (fun _ _ _ h => h) (Or.inr ⟨by rfl, rfl⟩) (by assumption) ?_
            try simp only [List.getElem_toArray, List.getElem_cons_succ, List.getElem_cons_zero, Act.put, List.setIfInBounds_toArray, List.set_cons_zero, List.set_cons_succ]
            refine wpAnyH_take (i := 8) (v := undef) rfl (by kernel_rfl) (by kernel_rfl) (by kernel_rfl) (fun _ _ _ h => h) (Or.inr ⟨by rfl, rfl⟩) (by assumption) ?_
            try simp only [List.getElem_toArray, List.getElem_cons_succ, List.getElem_cons_zero, Act.put, List.setIfInBounds_toArray, List.set_cons_zero, List.set_cons_succ]
            refine wpAnyH_take (i := 9) (v := .bool true) rfl (by kernel_rfl) (by kernel_rfl) (by kernel_rfl) (fun _ _ _ h => h) (Or.inl ⟨by rfl, fun w hSw => ?_⟩) (by assumption) ?_
            · (try dsimp only at hSw); go_simp
            try simp only [List.getElem_toArray, List.getElem_cons_succ, List.getElem_cons_zero, Act.put, List.setIfInBounds_toArray, List.set_cons_zero, List.set_cons_succ]
            refine wpAnyH_done (by kernel_rfl) ?_ _
            clear hHeld e0 e1 e2 e3 HW6 HAC
            go_wp2_with fail
            refine (awake_any _ (htab.fr (hF6.trans hFa))).mono ?_
            rintro e w20 ⟨rfl, hf20⟩
            go_wp2
            go_ret
            exact ⟨rfl, (hF6.trans hFa).trans hf20⟩
          · have HN1 := Lib.hid hn3
            clear hn1 hn3
            go_wp2_with fail
            rw [HW6.out]
            refine wp_region_held_drew (S := fun w' => w'.cell? ⟨w.heap.size, 0, none⟩ = some (.slice N o.need.length nn) ∧ w'.cell? ⟨w.heap.size, 1, none⟩ = some (.slice B o.bar.length b) ∧ w'.cell? ⟨w.heap.size, 2, none⟩ = some (.int .u64 o.salt) ∧ w'.cell? ⟨w.heap.size, 3, none⟩ = some (.int .u8 o.loose)) (by kernel_rfl) ⟨e0, e1, e2, e3⟩ (fun hHeld => ?_)
            refine wpAnyH_take (i := 0) (v := .agg #[.slice N o.need.length nn, .slice B o.bar.length b, .int .u64 o.salt, .int .u8 o.loose]) rfl (by kernel_rfl) (by kernel_rfl) (by kernel_rfl) (fun _ _ _ h => h) (Or.inl ⟨by rfl, fun w hSw => ?_⟩) (by assumption) ?_
            · (try dsimp only at hSw); go_simp
            try simp only [List.getElem_toArray, List.getElem_cons_succ, List.getElem_cons_zero, Act.put, List.setIfInBounds_toArray, List.set_cons_zero, List.set_cons_succ]
            refine wpAnyH_ready (rs := [1]) (by kernel_rfl) (by simp) ?_
            refine AllReadyH.cons rfl (fun K hK => ?_) AllReadyH.nil
            go_simp
            refine (Say_any _ o none 0 [] _ (HOV.out.fr0 (Fr.trans hF6 ((Fr.refl _ _).drew))) (Rd.nil_ _ _) HG.out).mono ?_
            rw [HN1.out]
            rintro e w8 ⟨rfl, hfa8⟩
            have hFa : Fr [] W6 w8 := ((Fr.refl _ _).drew).trans hfa8
            refine hK.out _ _ (⟨hFa.cell e0 (by simp), hFa.cell e1 (by simp), hFa.cell e2 (by simp), hFa.cell e3 (by simp)⟩) (fun hHeld2 => ?_)
            clear hK K hHeld
            have hHeld := hHeld2
            clear hHeld2
            try simp only [Act.put, List.setIfInBounds_toArray, List.set_cons_zero, List.set_cons_succ]
            refine wpAnyH_take (i := 2) (v := .bool true) rfl (by kernel_rfl) (by kernel_rfl) (by kernel_rfl) (fun _ _ _ h => h) (Or.inl ⟨by rfl, fun w hSw => ?_⟩) (by assumption) ?_
            · (try dsimp only at hSw); go_simp
            try simp only [List.getElem_toArray, List.getElem_cons_succ, List.getElem_cons_zero, Act.put, List.setIfInBounds_toArray, List.set_cons_zero, List.set_cons_succ]
            refine wpAnyH_take (i := 3) (v := .bool true) rfl (by kernel_rfl) (by kernel_rfl) (by kernel_rfl) (fun _ _ _ h => h) (Or.inl ⟨by rfl, fun w hSw => ?_⟩) (by assumption) ?_
            · (try dsimp only at hSw); go_simp
            try simp only [List.getElem_toArray, List.getElem_cons_succ, List.getElem_cons_zero, Act.put, List.setIfInBounds_toArray, List.set_cons_zero, List.set_cons_succ]
            refine wpAnyH_take (i := 4) (v := undef) rfl (by kernel_rfl) (by kernel_rfl) (by kernel_rfl) (fun _ _ _ h => h) (Or.inr ⟨by rfl, rfl⟩) (by assumption) ?_
            try simp only [List.getElem_toArray, List.getElem_cons_succ, List.getElem_cons_zero, Act.put, List.setIfInBounds_toArray, List.set_cons_zero, List.set_cons_succ]
            refine wpAnyH_take (i := 5) (v := undef) rfl (by kernel_rfl) (by kernel_rfl) (by kernel_rfl) (fun _ _ _ h => h) (Or.inr ⟨by rfl, rfl⟩) (by assumption) ?_
            try simp only [List.getElem_toArray, List.getElem_cons_succ, List.getElem_cons_zero, Act.put, List.setIfInBounds_toArray, List.set_cons_zero, List.set_cons_succ]
            refine wpAnyH_take (i := 6) (v := undef) rfl (by kernel_rfl) (by kernel_rfl) (by kernel_rfl) (fun _ _ _ h => h) (Or.inr ⟨by rfl, rfl⟩) (by assumption) ?_
            try simp only [List.getElem_toArray, List.getElem_cons_succ, List.getElem_cons_zero, Act.put, List.setIfInBounds_toArray, List.set_cons_zero, List.set_cons_succ]
            refine wpAnyH_take (i := 7) (v := undef) rfl (by kernel_rfl) (by kernel_rfl) (by kernel_rfl) (fun _ _ _ h => h) (Or.inr ⟨by rfl, rfl⟩) (by assumption) ?_
            try simp only [List.getElem_toArray, List.getElem_cons_succ, List.getElem_cons_zero, Act.put, List.setIfInBounds_toArray, List.set_cons_zero, List.set_cons_succ]
            refine wpAnyH_take (i := 8) (v := undef) rfl (by kernel_rfl) (by kernel_rfl) (by kernel_rfl) (fun _ _ _ h => h) (Or.inr ⟨by rfl, rfl⟩) (by assumption) ?_
            try simp only [List.getElem_toArray, List.getElem_cons_succ, List.getElem_cons_zero, Act.put, List.setIfInBounds_toArray, List.set_cons_zero, List.set_cons_succ]
            refine wpAnyH_take (i := 9) (v := .bool true) rfl (by kernel_rfl) (by kernel_rfl) (by kernel_rfl) (fun _ _ _ h => h) (Or.inl ⟨by rfl, fun w hSw => ?_⟩) (by assumption) ?_
            · (try dsimp only at hSw); go_simp
            try simp only [List.getElem_toArray, List.getElem_cons_succ, List.getElem_cons_zero, Act.put, List.setIfInBounds_toArray, List.set_cons_zero, List.set_cons_succ]
            refine wpAnyH_done (by kernel_rfl) ?_ _
            clear hHeld e0 e1 e2 e3 HW6 HAC
            go_wp2_with fail
            refine (awake_any _ (htab.fr (hF6.trans hFa))).mono ?_
            rintro e w20 ⟨rfl, hf20⟩
            go_wp2
            go_ret
            exact ⟨rfl, (hF6.trans hFa).trans hf20⟩
    · rw [hg] at hgc
      clear hg
      have e0 := hbk.cell 0 rfl
      have e1 := hbk.cell 1 rfl
      have e2 := hbk.cell 2 rfl
      have e3 := hbk.cell 3 rfl
      rw [← HW.out] at e0 e1 e2 e3
      go_enter Tryd.func13, Tryd.ntmps13
      go_wp2_with fail
      rw [HW.out]
      refine hgc.mono ?_
      rintro e w1 ⟨rfl, hf1⟩
      go_wp2_with fail
      refine (awake_any _ (htab.fr (hFW.trans hf1))).mono ?_
      rintro e w3 ⟨rfl, hf3⟩
      go_wp2
      go_ret
      exact ⟨rfl, (hFW.trans hf1).trans hf3⟩
end Go.Proofs.YtjpbmbonccenfaaDoor
