/- Texts of this seat, one behind the other: Close2, Gone, RNeeds, Sets, Hist, Anc, RAnc, Hist2, Choose. -/
import Derived.Test.YtjpbmbonccenfaaDoort219
import Derived.Test.YtjpbmbonccenfaaDoort217
import Derived.Test.YtjpbmbonccenfaaDoort212
/- Close. -/
namespace Go.Proofs.YtjpbmbonccenfaaDoor
open Go.RowKit
set_option linter.unusedVariables false

theorem chain_facts {n : Int} : ∀ {xs : List Int} {p : Int}, chain n p xs = true → -1 ≤ p → (∀ x ∈ xs, p < x ∧ 0 ≤ x ∧ x < n) ∧ (xs = [] ∨ (xs.length : Int) + p + 1 ≤ n)
  | [], _, _, _ => ⟨by simp, .inl rfl⟩
  | x :: xs, p, h, hp => by
    simp only [chain, Bool.and_eq_true, decide_eq_true_eq] at h
    have ih := chain_facts (xs := xs) (p := x) h.2 (by omega)
    refine ⟨fun y hy => ?_, .inr ?_⟩
    · rcases List.mem_cons.1 hy with rfl | hy
      · omega
      · have := ih.1 y hy; omega
    · rcases ih.2 with rfl | h2
      · simp; omega
      · simp; omega
theorem set_inR {n : Nat} {xs : List Int} (h : isSet n xs = true) : InR n xs ∧ xs.length ≤ n := by
  have := chain_facts (n := n) (xs := xs) (p := -1) h (by omega)
  refine ⟨fun x hx => by have := this.1 x hx; omega, ?_⟩
  rcases this.2 with rfl | h2
  · simp
  · omega
theorem ckN_facts {n : Int} : ∀ {L : List (List Int)} {i : Int}, ckN n i L = 0 → ∀ l ∈ L, isSet n l = true
  | [], _, _, _, hl => by cases hl
  | m :: L, i, h, l, hl => by
    rw [ckN] at h
    split at h
    · cases h
    · rename_i hm
      rcases List.mem_cons.1 hl with rfl | hl
      · cases hs : isSet n l
        · exact absurd (.inl hs) hm
        · rfl
      · exact ckN_facts h l hl
theorem needs_facts {L : List (List Int)} (h : checkNeeds L = 0) : L.length ≤ 256 ∧ ∀ l ∈ L, isSet L.length l = true := by
  unfold checkNeeds at h
  split at h
  · cases h
  · exact ⟨by omega, ckN_facts h⟩
theorem wt_le {n : Nat} : ∀ {L : List (List Int)} (bs : List Bool), (∀ l ∈ L, l.length ≤ n) → wt L bs ≤ L.length * (n + 1)
  | [], _, _ => by simp [wt]
  | l :: L, [], _ => by simp [wt]
  | l :: L, b :: bs, h => by
    have ih := wt_le (L := L) bs fun m hm => h m (by simp [hm])
    have := h l (by simp)
    simp only [wt, List.length_cons, Nat.succ_mul]
    split <;> omega
theorem wt_small {L : List (List Int)} (h : checkNeeds L = 0) (bs : List Bool) : wt L bs ≤ 70000 := by
  obtain ⟨h1, h2⟩ := needs_facts h
  have := wt_le (n := 256) bs fun l hl => Nat.le_trans (set_inR (h2 l hl)).2 h1
  have h3 : L.length * (256 + 1) ≤ 256 * 257 := Nat.mul_le_mul h1 (Nat.le_refl _)
  omega

/-- What Close comes to. -/
def ClosePost (w : World) (L : List (List Int)) (set : List Int) (e : Ending) (w' : World) : Prop :=
  (checkNeeds L ≠ 0 ∧ RetNums w ([], checkNeeds L) e w') ∨ (checkNeeds L = 0 ∧ isSet L.length set = false ∧ RetNums w ([], 1) e w') ∨
  (checkNeeds L = 0 ∧ isSet L.length set = true ∧ ∃ bs : List Bool, bs.length = L.length ∧ IsCl L set (inB bs) ∧ RetNums w (pickedOf bs, 0) e w')

set_option maxHeartbeats 1600000 in
theorem Close_any (A B : Option Addr) (c d : Nat) (L : List (List Int)) (set : List Int) (w : World) (ha : Rss w A c L) (hb : Rd w (.int .i64) B d set) :
    Calls Tryd.prog 51 #[.slice A L.length c, .slice B set.length d] w (ClosePost w L set) := by
  have hbd := ha.bound
  by_cases hc : checkNeeds L = 0
  · obtain ⟨hn, hl⟩ := needs_facts hc
    have hcb : (checkNeeds L != 0) = false := by simp [hc]
    have hws := wt_small hc
    have HC := Lib.hid hc
    clear hc
    by_cases hs : isSet L.length set = true
    · obtain ⟨h1, h2⟩ := set_inR hs
      have HI : Hid (∀ l ∈ L, InR L.length l) := fun l h => (set_inR (hl l h)).1
      have H1 := Lib.hid h1
      have HW : Hid (set.length + wt L (List.replicate L.length false) ≤ 1000000) := by
        have := hws (List.replicate L.length false)
        show _ ≤ _
        omega
      have HS := Lib.hid hs
      clear hl h1 hws
      go_enter Tryd.func51, Tryd.ntmps51
      go_wp2_with fail
      refine (CheckNeeds_any A c L w ha).mono ?_
      rintro e w1 ⟨rfl, n1, rfl⟩
      go_wp2_with fail
      refine (rising_any B d set L.length _ (hb.drewN _)).mono ?_
      rintro e w2 ⟨rfl, n2, rfl⟩
      go_wp2_with fail
      refine (closed_any A B c d L set _ (ha.drewN _) (hb.drewN _) HI.out H1.out HW.out (by omega)).mono ?_
      rintro e w3 ⟨bs, hbs, hcl, A3, c3, rfl, hf3, hown3⟩
      have HCL := Lib.hid hcl
      clear hcl
      go_wp2
      go_ret2
      exact .inr (.inr ⟨HC.out, HS.out, bs, hbs, HCL.out, RetNums.ok (zs := pickedOf bs) (((Fr.refl _ _).drewN _).trans hf3) (own_base hown3 (Nat.le_refl _)) rfl⟩)
    · have hs' : isSet L.length set = false := by simpa using hs
      have HS := Lib.hid hs'
      clear hs hws hl
      go_enter Tryd.func51, Tryd.ntmps51
      go_wp2_with fail
      refine (CheckNeeds_any A c L w ha).mono ?_
      rintro e w1 ⟨rfl, n1, rfl⟩
      go_wp2_with fail
      refine (rising_any B d set L.length _ (hb.drewN _)).mono ?_
      rintro e w2 ⟨rfl, n2, rfl⟩
      go_wp2
      go_ret2
      exact .inr (.inl ⟨HC.out, HS.out, RetNums.err ((Fr.refl _ _).drewN _) rfl⟩)
  · have hcb : (checkNeeds L != 0) = true := by simpa using hc
    have HC := Lib.hid hc
    clear hc
    go_enter Tryd.func51, Tryd.ntmps51
    go_wp2_with fail
    refine (CheckNeeds_any A c L w ha).mono ?_
    rintro e w1 ⟨rfl, n1, rfl⟩
    go_wp2
    go_ret2
    exact .inl ⟨HC.out, RetNums.err ((Fr.refl _ _).drewN _) rfl⟩
end Go.Proofs.YtjpbmbonccenfaaDoor

/- reduced: a closed set without an element and what needs it. -/
namespace Go.Proofs.YtjpbmbonccenfaaDoor
open Go.RowKit
set_option linter.unusedVariables false

/-- What is gone with an element. -/
structure IsGn (L : List (List Int)) (set : List Int) (i : Int) (G : Int → Bool) : Prop where
  base : G i = true
  step : ∀ x ∈ set, ∀ y ∈ needsOf L x, G y = true → G x = true
  least : ∀ D : Int → Bool, D i = true → (∀ x ∈ set, ∀ y ∈ needsOf L x, D y = true → D x = true) → ∀ x, G x = true → D x = true
/-- What is known all the time. -/
structure GnInv (L : List (List Int)) (set : List Int) (i : Int) (gs : List Bool) : Prop where
  len : gs.length = L.length
  base : inB gs i = true
  least : ∀ D : Int → Bool, D i = true → (∀ x ∈ set, ∀ y ∈ needsOf L x, D y = true → D x = true) → ∀ x, inB gs x = true → D x = true
/-- A pass has found nothing up to place k. -/
def PassOk (L : List (List Int)) (set : List Int) (gs : List Bool) (k : Nat) : Prop := ∀ k' x, k' < k → set[k']? = some x → ∀ y ∈ needsOf L x, inB gs y = true → inB gs x = true
def InnerOk (l : List Int) (gs : List Bool) (x : Int) (j : Nat) : Prop := ∀ j' y, j' < j → l[j']? = some y → inB gs y = true → inB gs x = true
theorem InnerOk.succ {l : List Int} {gs : List Bool} {x y : Int} {j : Nat} (h : InnerOk l gs x j) (hy : l[j]? = some y) (hh : inB gs y = true → inB gs x = true) : InnerOk l gs x (j + 1) := fun j' z hj hz hg => by
  by_cases e : j' = j
  · subst e
    rw [hy] at hz; injection hz with hz; subst hz
    exact hh hg
  · exact h j' z (by omega) hz hg
theorem PassOk.succ {L : List (List Int)} {set : List Int} {gs : List Bool} {k : Nat} {x : Int} (h : PassOk L set gs k) (hx : set[k]? = some x) (hi : InnerOk (needsOf L x) gs x (needsOf L x).length) : PassOk L set gs (k + 1) := fun k' z hk hz y hy hg => by
  by_cases e : k' = k
  · subst e
    rw [hx] at hz; injection hz with hz; subst hz
    obtain ⟨j, hj, e⟩ := List.mem_iff_getElem.1 hy
    exact hi j y hj (by rw [List.getElem?_eq_getElem hj, e]) hg
  · exact h k' z (by omega) hz y hy hg
theorem GnInv.start {L : List (List Int)} (set : List Int) {i : Nat} (hi : i < L.length) : GnInv L set i ((List.replicate L.length false).set i true) :=
  ⟨by simp, by rw [show i = ((i : Int)).toNat from rfl, inB_set (by omega) (by simpa using hi)]; simp, fun D h1 _ x hx => by
    rw [show i = ((i : Int)).toNat from rfl, inB_set (by omega) (by simpa using hi)] at hx
    simp only [Bool.or_eq_true, decide_eq_true_eq] at hx
    rcases hx with hx | hx
    · unfold inB at hx; simp [List.getElem?_replicate] at hx
      obtain ⟨_, hx⟩ := hx
      split at hx <;> simp at hx
    · subst hx; exact h1⟩
theorem GnInv.add {L : List (List Int)} {set : List Int} {i : Int} {gs : List Bool} {x y : Int} (h : GnInv L set i gs) (hx : x ∈ set) (hy : y ∈ needsOf L x) (hg : inB gs y = true) (h0 : 0 ≤ x) (h1 : x.toNat < gs.length) : GnInv L set i (gs.set x.toNat true) :=
  ⟨by simpa using h.len, by rw [inB_set h0 h1, h.base]; rfl, fun D d1 d2 z hz => by
    rw [inB_set h0 h1] at hz
    simp only [Bool.or_eq_true, decide_eq_true_eq] at hz
    rcases hz with hz | hz
    · exact h.least D d1 d2 z hz
    · subst hz; exact d2 z hx y hy (h.least D d1 d2 y hg)⟩
theorem GnInv.done {L : List (List Int)} {set : List Int} {i : Int} {gs : List Bool} (h : GnInv L set i gs) (hp : PassOk L set gs set.length) : IsGn L set i (inB gs) :=
  ⟨h.base, fun x hx y hy hg => by
    obtain ⟨k, hk, e⟩ := List.mem_iff_getElem.1 hx
    exact hp k x hk (by rw [List.getElem?_eq_getElem hk, e]) y hy hg, h.least⟩
theorem inB_at {bs : List Bool} {j : Nat} {b : Bool} (h : bs[j]? = some b) : inB bs (j : Int) = b := by unfold inB; simp [h]

theorem Blk.setB {w : World} {g : Nat} {t : TypeId} {bs : List Bool} (h : Blk w g t (bs.map Value.bool).toArray) (j : Nat) (b : Bool) : Blk (w.setCell ⟨g, j, none⟩ (.bool b)) g t ((bs.set j b).map Value.bool).toArray := by
  simpa [List.map_set] using h.set_ j (.bool b)
/-- Within a pass. n0: how many were not gone when it began. -/
structure GnSt (w : World) (L : List (List Int)) (set : List Int) (i : Int) (B0 n0 : Nat) (ok : List Bool → Prop) (v : Value) (wr : World) : Prop where
  ex : ∃ (gs : List Bool) (b : Bool), v = .bool b ∧ Blk wr B0 4 (gs.map Value.bool).toArray ∧ gs.length = L.length ∧ Hid (GnInv L set i gs) ∧ Hid (b = false → gs.count false = n0 ∧ ok gs) ∧ Hid (b = true → gs.count false < n0) ∧ Fr [] w wr
/-- Between two passes. -/
def GnRel (w : World) (L : List (List Int)) (set : List Int) (i : Int) (B0 t : Nat) (v : Value) (wr : World) : Prop :=
  ∃ (gs : List Bool) (b : Bool), v = .bool b ∧ Blk wr B0 4 (gs.map Value.bool).toArray ∧ gs.length = L.length ∧ Hid (GnInv L set i gs) ∧ Hid (b = false → PassOk L set gs set.length) ∧ t = gs.count false * 2 + (if b then 1 else 0) ∧ Fr [] w wr
def ReducedPost (w : World) (L : List (List Int)) (set : List Int) (i : Int) (e : Ending) (w' : World) : Prop :=
  ∃ gs : List Bool, gs.length = L.length ∧ IsGn L set i (inB gs) ∧ RetN w 3 (minus set (pickedOf gs)) e w'

set_option maxRecDepth 100000 in
set_option maxHeartbeats 3200000 in
theorem reduced_any (A B : Option Addr) (c d : Nat) (L : List (List Int)) (set : List Int) (i : Nat) (w : World) (ha : Rss w A c L) (hb : Rd w (.int .i64) B d set) (hL : ∀ l ∈ L, InR L.length l) (hs : InR L.length set)
    (hn : L.length ≤ 1000000) (hi : i < L.length) (hsl : set.length ≤ 1000000) :
    Calls Tryd.prog 96 #[.slice A L.length c, .slice B set.length d, .int .i64 (i : Nat)] w (ReducedPost w L set i) := by
  have HL := Lib.hid hL
  have HSR := Lib.hid hs
  clear hL hs
  go_enter Tryd.func96, Tryd.ntmps96
  go_wp2_with (at_make; refine wpList_makeN rfl _ _ _ rfl elemBools2 rfl L.length rfl rfl (by omega) ?_; intro w0 hown0 hg0; have hbl0 := own_blk hown0 (by omega); rw [← List.map_replicate] at hbl0; have k0 := hbl0.cell i (u := .bool false) (by simp [hi]); have k1 := hbl0.frozen i)
  have hf0 : Fr [] w w0 := (Fr.refl _ _).grown hg0 (by simp)
  have hI : GnRel w L set i w.heap.size (((List.replicate L.length false).set i true).count false * 2 + 1) (.bool true) (w0.setCell ⟨w.heap.size, i, none⟩ (.bool true)) :=
    ⟨(List.replicate L.length false).set i true, true, rfl, hbl0.setB i true, by simp, GnInv.start set hi, (fun h => by cases h), by simp, hf0.setCell (p := ⟨w.heap.size, i, none⟩) (.inr (Nat.le_refl _)) _⟩
  clear hown0 hg0 hbl0 k0 k1 hf0
  generalize w0.setCell ⟨w.heap.size, i, none⟩ (.bool true) = w1 at hI ⊢
  generalize ((List.replicate L.length false).set i true).count false * 2 + 1 = N at hI ⊢
  go_loopg [8] N (GnRel w L set i w.heap.size)
  case atStart => exact hI
  case round =>
    clear hI
    obtain ⟨gs, b, rfl, hblk, hgl, hinv, hok, hgk, hf⟩ := hrel
    cases b
    · have hgn := Lib.hid (hinv.out.done (hok.out rfl))
      have hrb := Rd.of_blk hblk (by unfold maxLen; omega)
      rw [hgl] at hrb
      have hpk := picked_any _ _ gs wr hrb (by omega)
      rw [hgl] at hpk
      go_wp2_with fail
      refine hpk.mono ?_
      rintro e w5 ⟨A5, c5, rfl, hf5, hown5⟩
      have hF5 := hf.trans hf5
      go_wp2_with fail
      refine (without_any B A5 d c5 set (pickedOf gs) _ (hb.fr0 hF5) (Rd.of_own hown5).2 hsl).mono ?_
      intro e w6 h6
      obtain ⟨A6, c6, rfl, hf6, hown6⟩ := h6.n
      go_wp2
      go_ret
      exact ⟨gs, hgl, hgn.out, A6, c6, rfl, hF5.trans hf6, own_base hown6 hF5.size⟩
    · go_wp2_with fail
      have hbb := hb.bound
      have hI2 : GnSt w L set i w.heap.size (gs.count false) (fun gs => PassOk L set gs 0) (.bool false) wr :=
        ⟨gs, false, rfl, hblk, hgl, hinv, (fun _ => ⟨rfl, fun k' x h => by omega⟩), (fun h => by cases h), hf⟩
      have hN0 := Lib.hid hgk
      clear hblk hinv hok hgk hgl hf
      generalize gs.count false = n0 at *
      go_loopw [8, 22] (fun v kv wr => ∃ k : Nat, k ≤ set.length ∧ kv = .int .i64 k ∧ GnSt w L set i w.heap.size n0 (fun gs => PassOk L set gs k) v wr) (fun _ k _ => set.length - (intOf k).toNat)
      case atStart => exact ⟨0, Nat.zero_le _, rfl, hI2⟩
      case round =>
        clear hI2
        obtain ⟨k, hk, rfl, ⟨gs, b, rfl, hblk, hgl, hinv, hok, hok2, hf⟩⟩ := hrel
        by_cases hlt : k < set.length
        · obtain ⟨b1, o1, x, rfl, hx, hc1⟩ := (hb.fr0 hf).at_ hlt
          have hxm := List.mem_of_getElem? hx.out
          have hxr := HSR.out x hxm
          obtain ⟨xn, rfl⟩ : ∃ xn : Nat, x = xn := ⟨x.toNat, by omega⟩
          have hxl : xn < L.length := by omega
          obtain ⟨b2, o2, l, A3, c3, rfl, hl, hc2w, hr3⟩ := ha.at_ hxl
          have hc2 := hf.cell hc2w (by simp)
          have hno : Hid (needsOf L xn = l) := by show _ = _; unfold needsOf; simp [hl.out]
          have hlR := Lib.hid (HL.out l (List.mem_of_getElem? hl.out))
          go_wp2_with fail
          have hlb := hr3.bound
          go_loopw [8, 31] (fun v jv wr' => ∃ j : Nat, j ≤ l.length ∧ jv = .int .i64 j ∧ GnSt w L set i w.heap.size n0 (fun gs => PassOk L set gs k ∧ InnerOk l gs xn j) v wr') (fun _ j _ => l.length - (intOf j).toNat)
          case atStart => exact ⟨0, Nat.zero_le _, rfl, gs, b, rfl, hblk, hgl, hinv, fun h => ⟨(hok.out h).1, (hok.out h).2, fun j' y h => by omega⟩, hok2, hf⟩
          case round =>
            obtain ⟨j, hj, rfl, ⟨gs2, b', rfl, hblk, hgl, hinv, hok, hok2, hf⟩⟩ := hrel
            by_cases hltj : j < l.length
            · obtain ⟨b3, o3, y, rfl, hy, hc3⟩ := (hr3.fr0 hf).at_ hltj
              have hyr := hlR.out y (List.mem_of_getElem? hy.out)
              obtain ⟨yn, rfl⟩ : ∃ yn : Nat, y = yn := ⟨y.toNat, by omega⟩
              have hyl : yn < L.length := by omega
              obtain ⟨by_, hby⟩ : ∃ b, gs2[yn]? = some b := ⟨_, List.getElem?_eq_getElem (by omega)⟩
              obtain ⟨bx, hbx⟩ : ∃ b, gs2[xn]? = some b := ⟨_, List.getElem?_eq_getElem (by omega)⟩
              have k4 := hblk.cell yn (u := .bool by_) (by simp [hby])
              have k5 := hblk.cell xn (u := .bool bx) (by simp [hbx])
              have k6 := hblk.frozen xn
              have HY := Lib.hid (inB_at hby)
              have HX := Lib.hid (inB_at hbx)
              have HBX := Lib.hid hbx
              clear hby hbx
              have hskip : by_ = false ∨ bx = true → Hid (b' = false → gs2.count false = n0 ∧ PassOk L set gs2 k ∧ InnerOk l gs2 xn (j + 1)) := fun h hb' =>
                ⟨(hok.out hb').1, (hok.out hb').2.1, (hok.out hb').2.2.succ hy.out fun hg => by
                  rcases h with h | h
                  · rw [HY.out, h] at hg; cases hg
                  · rw [HX.out, h]⟩
              cases by_
              · have hsk := hskip (.inl rfl)
                clear hskip
                go_wp2_with fail
                go_roundw
                case rel => exact ⟨j + 1, by omega, by go_num, gs2, b', rfl, hblk, hgl, hinv, hsk, hok2, hf⟩
                case measure => simp [intOf]; omega
              · cases bx
                · clear hskip
                  have hin2 : Hid (GnInv L set i (gs2.set xn true)) := hinv.out.add (x := (xn : Int)) hxm (by rw [hno.out]; exact List.mem_of_getElem? hy.out) HY.out (by omega) (by omega)
                  have hcn : Hid ((gs2.set xn true).count false < n0) := by
                    have h1 := count_set HBX.out
                    have h2 := hok.out
                    have h3 := hok2.out
                    show _ < _
                    cases b'
                    · have := (h2 rfl).1; omega
                    · have := h3 rfl; omega
                  go_wp2_with fail
                  go_roundw
                  case rel => exact ⟨j + 1, by omega, by go_num, gs2.set xn true, true, rfl, hblk.setB xn true, by simpa using hgl, hin2, (fun h => by cases h), (fun _ => hcn.out), hf.setCell (p := ⟨w.heap.size, xn, none⟩) (.inr (Nat.le_refl _)) _⟩
                  case measure => simp [intOf]; omega
                · have hsk := hskip (.inr rfl)
                  clear hskip
                  go_wp2_with fail
                  go_roundw
                  case rel => exact ⟨j + 1, by omega, by go_num, gs2, b', rfl, hblk, hgl, hinv, hsk, hok2, hf⟩
                  case measure => simp [intOf]; omega
            · have hje : j = l.length := by omega
              subst hje
              go_wp2_with fail
              go_roundw
              case rel => exact ⟨k + 1, by omega, by go_num, gs2, b', rfl, hblk, hgl, hinv, fun h => ⟨(hok.out h).1, (hok.out h).2.1.succ hx.out (by rw [hno.out]; exact (hok.out h).2.2)⟩, hok2, hf⟩
              case measure => simp [intOf]; omega
        · have hke : k = set.length := by omega
          subst hke
          go_wp2_with fail
          go_roundg (gs.count false * 2 + (if b then 1 else 0))
          case measure =>
            have h1 : gk = n0 * 2 + 1 := hN0.out
            have h2 := hok.out
            have h3 := hok2.out
            cases b
            · have := (h2 rfl).1
              show gs.count false * 2 + 0 < gk
              omega
            · have := h3 rfl
              show gs.count false * 2 + 1 < gk
              omega
          case rel => exact ⟨gs, b, rfl, hblk, hgl, hinv, fun h => (hok.out h).2, rfl, hf⟩
end Go.Proofs.YtjpbmbonccenfaaDoor

/- Needs, closed sets of the reference; Without of the program. -/
namespace Go.Proofs.YtjpbmbonccenfaaDoor
open Go.RowKit
set_option linter.unusedVariables false

set_option maxHeartbeats 800000 in
theorem refCheckNeeds_any (A : Option Addr) (c : Nat) (L : List (List Int)) (w : World) (ha : Rss w A c L) :
    Calls Tryd.prog 40 #[.slice A L.length c] w (RetQ w (.int .i64 (checkNeeds L))) := by
  have hbd := ha.bound
  by_cases h256 : 256 < L.length
  · have hr := Lib.hid (show checkNeeds L = 3 by simp [checkNeeds, h256])
    go_enter Tryd.func40, Tryd.ntmps40
    go_wp2
    go_ret
    exact ⟨ret_int hr.out.symm, 0, rfl⟩
  · have hr := Lib.hid (show checkNeeds L = ckN L.length 0 L by simp [checkNeeds, h256])
    have hle : L.length ≤ 256 := by omega
    go_enter Tryd.func40, Tryd.ntmps40
    go_wp2
    go_loopw [3] (fun i wr => ∃ k : Nat, k ≤ L.length ∧ i = .int .i64 k ∧ Hid (checkNeeds L = ckN L.length k (L.drop k)) ∧ ∃ m, wr = w.drewN m) (fun i _ => L.length - (intOf i).toNat)
    case atStart => exact ⟨0, Nat.zero_le _, rfl, by show _ = _; rw [hr.out]; simp, 0, rfl⟩
    case round =>
      clear hr
      obtain ⟨k, hk, rfl, HE, m, rfl⟩ := hrel
      by_cases hlt : k < L.length
      · obtain ⟨b1, o1, l, A1, c1, rfl, hx, hc1, hr1⟩ := ha.at_ hlt
        have hst := ckN_at hx (n := L.length) (i := k)
        by_cases hs : isSet (L.length : Int) l = true
        · by_cases hm : (k : Int) ∈ l
          · have hd : decide ((k : Int) ∈ l) = true := by simpa using hm
            rw [if_pos (.inr hm)] at hst
            have HF : Hid (checkNeeds L = 1) := HE.out.trans hst
            clear hst hm
            go_wp2_with (first | (go_at_call 20; refine (Set_any A1 c1 l L.length _ (hr1.drewN _)).mono ?_; rintro e w' ⟨rfl, n1, rfl⟩) | (go_at_call 69; refine (Has_any A1 c1 l k _ (hr1.drewN _)).mono ?_; rintro e w' ⟨rfl, n2, rfl⟩))
            go_ret
            exact ⟨ret_int HF.out.symm, _, by first | rfl | exact World.drewN_drewN ..⟩
          · have hd : decide ((k : Int) ∈ l) = false := by simpa using hm
            rw [if_neg (by simp [hs, hm])] at hst
            have HF : Hid (checkNeeds L = ckN L.length (k + 1) (L.drop (k + 1))) := HE.out.trans hst
            clear hst hm
            go_wp2_with (first | (go_at_call 20; refine (Set_any A1 c1 l L.length _ (hr1.drewN _)).mono ?_; rintro e w' ⟨rfl, n1, rfl⟩) | (go_at_call 69; refine (Has_any A1 c1 l k _ (hr1.drewN _)).mono ?_; rintro e w' ⟨rfl, n2, rfl⟩))
            go_roundw
            case rel => exact ⟨k + 1, by omega, by go_num, HF, _, by first | rfl | exact World.drewN_drewN ..⟩
            case measure => simp [intOf]; omega
        · have hs' : isSet (L.length : Int) l = false := by simpa using hs
          rw [if_pos (.inl hs')] at hst
          have HF : Hid (checkNeeds L = 1) := HE.out.trans hst
          clear hst hs
          go_wp2_with (first | (go_at_call 20; refine (Set_any A1 c1 l L.length _ (hr1.drewN _)).mono ?_; rintro e w' ⟨rfl, n1, rfl⟩) | (go_at_call 69; refine (Has_any A1 c1 l k _ (hr1.drewN _)).mono ?_; rintro e w' ⟨rfl, n2, rfl⟩))
          go_ret
          exact ⟨ret_int HF.out.symm, _, by first | rfl | exact World.drewN_drewN ..⟩
      · have HF : Hid (checkNeeds L = 0) := by
          show _ = _
          rw [HE.out, List.drop_of_length_le (by omega), ckN]
        go_wp2
        go_ret
        exact ⟨ret_int HF.out.symm, _, rfl⟩

/-- Does a set contain all that its elements need? -/
def isClosedB (L : List (List Int)) (set : List Int) : Bool := set.all fun x => decide (minus (needsOf L x) set = [])
theorem all_take_succ {f : Int → Bool} {xs : List Int} {k : Nat} {x : Int} (h : Hid (xs[k]? = some x)) (ha : Hid ((xs.take k).all f = true)) (hx : f x = true) : Hid ((xs.take (k + 1)).all f = true) := by
  show _ = _
  rw [List.take_add_one, h.out, List.all_append, ha.out]
  simp [hx]
theorem all_false {f : Int → Bool} {xs : List Int} {k : Nat} {x : Int} (h : Hid (xs[k]? = some x)) (hx : f x = false) : xs.all f = false := by
  rw [← Bool.not_eq_true, List.all_eq_true]
  intro ha
  have := ha x (List.mem_of_getElem? h.out)
  rw [hx] at this; cases this

set_option maxHeartbeats 800000 in
theorem refClosed_any (A B : Option Addr) (c d : Nat) (L : List (List Int)) (set : List Int) (w : World) (ha : Rss w A c L) (hb : Rd w (.int .i64) B d set) (hs : InR L.length set) (hlen : ∀ l ∈ L, l.length ≤ 1000000) :
    Calls Tryd.prog 43 #[.slice A L.length c, .slice B set.length d] w (RetV w (.bool (isClosedB L set))) := by
  have hbb := hb.bound
  have HS := Lib.hid hs
  have HLN := Lib.hid hlen
  clear hs hlen
  go_enter Tryd.func43, Tryd.ntmps43
  go_wp2
  go_loopw [5] (fun i wr => ∃ k : Nat, k ≤ set.length ∧ i = .int .i64 k ∧ Hid ((set.take k).all (fun x => decide (minus (needsOf L x) set = [])) = true) ∧ Fr [] w wr) (fun i _ => set.length - (intOf i).toNat)
  case atStart => exact ⟨0, Nat.zero_le _, rfl, by show _ = _; simp, Fr.refl _ _⟩
  case round =>
    obtain ⟨k, hk, rfl, hall, hf⟩ := hrel
    by_cases hlt : k < set.length
    · obtain ⟨b1, o1, x, rfl, hx, hc1⟩ := (hb.fr0 hf).at_ hlt
      have hxr := HS.out x (List.mem_of_getElem? hx.out)
      obtain ⟨xn, rfl⟩ : ∃ xn : Nat, x = xn := ⟨x.toNat, by omega⟩
      obtain ⟨b2, o2, l, A3, c3, rfl, hl, hc2, hr3⟩ := (ha.fr0 hf).at_ (k := xn) (by omega)
      have hno : Hid (needsOf L xn = l) := by show _ = _; unfold needsOf; simp [hl.out]
      have hll := HLN.out l (List.mem_of_getElem? hl.out)
      go_wp2_with fail
      refine (Minus_any A3 (some ⟨b1, o1, none⟩) c3 d l set _ hr3 (hb.fr0 hf) hll).mono ?_
      intro e w2 h2
      obtain ⟨A5, c5, rfl, hf5, hown5⟩ := h2.n
      have hml := minus_le l set
      by_cases hz : (minus l set).length = 0
      · have hd : decide (0 < (minus l set).length) = false := by simp [hz]
        have hfx : decide (minus (needsOf L xn) set = []) = true := by rw [hno.out]; simpa using List.eq_nil_of_length_eq_zero hz
        have hal := all_take_succ (f := fun x => decide (minus (needsOf L x) set = [])) hx hall hfx
        clear hz hfx
        go_wp2
        go_roundw
        case rel => exact ⟨k + 1, by omega, by go_num, hal, hf.trans hf5⟩
        case measure => simp [intOf]; omega
      · have hd : decide (0 < (minus l set).length) = true := by rw [decide_eq_true_eq]; omega
        have hfx : decide (minus (needsOf L xn) set = []) = false := by
          rw [hno.out, decide_eq_false_iff_not]
          intro h
          rw [h] at hz
          exact hz rfl
        have hal := Lib.hid (all_false (f := fun x => decide (minus (needsOf L x) set = [])) hx hfx)
        clear hz hfx
        go_wp2
        go_ret
        exact ⟨ret_bool hal.out.symm, hf.trans hf5⟩
    · go_wp2
      go_ret
      refine ⟨ret_bool ?_, hf⟩
      have := hall.out
      rw [List.take_of_length_le (by omega)] at this
      exact this.symm
end Go.Proofs.YtjpbmbonccenfaaDoor

/- Sets as rising lists: plain facts. -/
namespace Go.Proofs.YtjpbmbonccenfaaDoor
open Go.RowKit
set_option linter.unusedVariables false

theorem chain_iff {n : Int} : ∀ (xs : List Int) (p : Int), -1 ≤ p → (chain n p xs = true ↔ (∀ x ∈ xs, p < x ∧ x < n) ∧ xs.Pairwise (· < ·))
  | [], _, _ => by simp [chain]
  | x :: xs, p, hp => by
    simp only [chain, Bool.and_eq_true, decide_eq_true_eq, List.mem_cons, List.pairwise_cons]
    constructor
    · rintro ⟨⟨⟨h1, h2⟩, h3⟩, h4⟩
      obtain ⟨h5, h6⟩ := (chain_iff xs x (by omega)).1 h4
      exact ⟨fun y hy => by
        rcases hy with rfl | hy
        · exact ⟨h1, h3⟩
        · have := h5 y hy; omega, fun y hy => (h5 y hy).1, h6⟩
    · rintro ⟨h1, h2, h3⟩
      have hx := h1 x (.inl rfl)
      exact ⟨⟨⟨hx.1, by omega⟩, hx.2⟩, (chain_iff xs x (by omega)).2 ⟨fun y hy => ⟨h2 y hy, (h1 y (.inr hy)).2⟩, h3⟩⟩
theorem isSet_iff {n : Int} {xs : List Int} : isSet n xs = true ↔ (∀ x ∈ xs, 0 ≤ x ∧ x < n) ∧ xs.Pairwise (· < ·) := by
  unfold isSet
  rw [chain_iff xs (-1) (by omega)]
  constructor
  · rintro ⟨h1, h2⟩; exact ⟨fun x hx => by have := h1 x hx; omega, h2⟩
  · rintro ⟨h1, h2⟩; exact ⟨fun x hx => by have := h1 x hx; omega, h2⟩
theorem sorted_nodup {xs : List Int} (h : xs.Pairwise (· < ·)) : xs.Nodup := h.imp (by omega)
theorem sorted_ext : ∀ {xs ys : List Int}, xs.Pairwise (· < ·) → ys.Pairwise (· < ·) → (∀ x, x ∈ xs ↔ x ∈ ys) → xs = ys
  | [], [], _, _, _ => rfl
  | [], y :: ys, _, _, h => by have := (h y).2 (by simp); simp at this
  | x :: xs, [], _, _, h => by have := (h x).1 (by simp); simp at this
  | x :: xs, y :: ys, hx, hy, h => by
    rw [List.pairwise_cons] at hx hy
    have e : x = y := by
      have h1 := (h x).1 (by simp)
      have h2 := (h y).2 (by simp)
      rcases List.mem_cons.1 h1 with h1 | h1
      · exact h1
      · rcases List.mem_cons.1 h2 with h2 | h2
        · exact h2.symm
        · have := hx.1 y h2; have := hy.1 x h1; omega
    subst e
    rw [sorted_ext hx.2 hy.2 fun z => ?_]
    have := h z
    simp only [List.mem_cons] at this
    constructor
    · intro hz
      rcases this.1 (.inr hz) with h1 | h1
      · subst h1; have := hx.1 z hz; omega
      · exact h1
    · intro hz
      rcases this.2 (.inr hz) with h1 | h1
      · subst h1; have := hy.1 z hz; omega
      · exact h1
theorem mem_minus {xs ys : List Int} {x : Int} : x ∈ minus xs ys ↔ x ∈ xs ∧ x ∉ ys := by unfold minus; simp
theorem minus_sorted {xs : List Int} (ys : List Int) (h : xs.Pairwise (· < ·)) : (minus xs ys).Pairwise (· < ·) := h.filter _
theorem minus_set {n : Int} {xs : List Int} (ys : List Int) (h : isSet n xs = true) : isSet n (minus xs ys) = true := by
  rw [isSet_iff] at *
  exact ⟨fun x hx => h.1 x (mem_minus.1 hx).1, minus_sorted ys h.2⟩
theorem minus_nil_iff {xs ys : List Int} : minus xs ys = [] ↔ ∀ x ∈ xs, x ∈ ys := by
  unfold minus
  rw [List.filter_eq_nil_iff]
  simp
theorem nodup_sub_len : ∀ {xs ys : List Int}, xs.Nodup → (∀ x ∈ xs, x ∈ ys) → xs.length ≤ ys.length
  | [], _, _, _ => by simp
  | x :: xs, ys, hn, h => by
    rw [List.nodup_cons] at hn
    have hx := h x (by simp)
    have := nodup_sub_len (ys := ys.erase x) hn.2 fun y hy => (List.mem_erase_of_ne (fun (e : y = x) => hn.1 (e ▸ hy))).2 (h y (by simp [hy]))
    have hl := List.length_erase_of_mem hx
    have := List.length_pos_of_mem hx
    simp; omega
theorem nodup_sub_eq {xs ys : List Int} (hx : xs.Nodup) (h : ∀ x ∈ xs, x ∈ ys) (hl : ys.length ≤ xs.length) : ∀ y ∈ ys, y ∈ xs := fun y hy => by
  by_cases hm : y ∈ xs
  · exact hm
  · have := nodup_sub_len (xs := y :: xs) (ys := ys) (List.nodup_cons.2 ⟨hm, hx⟩) fun z hz => by
      rcases List.mem_cons.1 hz with rfl | hz
      · exact hy
      · exact h z hz
    simp at this; omega
theorem mem_picked {bs : List Bool} {x : Int} : x ∈ pickedOf bs ↔ inB bs x = true := by
  unfold pickedOf inB
  simp only [List.mem_map, List.mem_filter, List.mem_range, Bool.and_eq_true, decide_eq_true_eq]
  constructor
  · rintro ⟨k, ⟨h1, h2⟩, rfl⟩
    exact ⟨by omega, by simpa using h2⟩
  · rintro ⟨h1, h2⟩
    refine ⟨x.toNat, ⟨?_, h2⟩, by omega⟩
    by_cases h : x.toNat < bs.length
    · exact h
    · rw [List.getD_eq_getElem?_getD, List.getElem?_eq_none (by omega)] at h2
      cases h2
theorem picked_sorted (bs : List Bool) : (pickedOf bs).Pairwise (· < ·) := by
  unfold pickedOf
  rw [List.pairwise_map]
  refine List.Pairwise.filter _ ?_
  exact List.pairwise_lt_range.imp (by omega)
theorem inB_lt {bs : List Bool} {x : Int} (h : inB bs x = true) : 0 ≤ x ∧ x < bs.length := by
  have := mem_picked.2 h
  unfold pickedOf at this
  simp only [List.mem_map, List.mem_filter, List.mem_range] at this
  obtain ⟨k, ⟨h1, _⟩, rfl⟩ := this
  omega
theorem picked_set (bs : List Bool) : isSet bs.length (pickedOf bs) = true := by
  rw [isSet_iff]
  exact ⟨fun x hx => inB_lt (mem_picked.1 hx), picked_sorted bs⟩
theorem isClosed_iff {L : List (List Int)} {set : List Int} : isClosedB L set = true ↔ ∀ x ∈ set, ∀ y ∈ needsOf L x, y ∈ set := by
  unfold isClosedB
  rw [List.all_eq_true]
  simp only [decide_eq_true_eq, minus_nil_iff]
/-- A set is closed just if closing it adds nothing. -/
theorem closed_len {L : List (List Int)} {set : List Int} {bs : List Bool} {n : Int} (hs : isSet n set = true) (h : IsCl L set (inB bs)) : (pickedOf bs).length = set.length ↔ isClosedB L set = true := by
  rw [isSet_iff] at hs
  have hsub : ∀ x ∈ set, x ∈ pickedOf bs := fun x hx => mem_picked.2 (h.base x hx)
  rw [isClosed_iff]
  constructor
  · intro hl x hx y hy
    exact nodup_sub_eq (sorted_nodup hs.2) hsub (by omega) y (mem_picked.2 (h.step x (h.base x hx) y hy))
  · intro hc
    have hsub2 : ∀ x ∈ pickedOf bs, x ∈ set := fun x hx => by
      have := h.least (fun x => decide (x ∈ set)) (fun x hx => by simpa using hx) (fun x hx y hy => by simp at hx ⊢; exact hc x hx y hy) x (mem_picked.1 hx)
      simpa using this
    have h1 := nodup_sub_len (sorted_nodup hs.2) hsub
    have h2 := nodup_sub_len (sorted_nodup (picked_sorted bs)) hsub2
    omega
end Go.Proofs.YtjpbmbonccenfaaDoor

/- Histories: which are valid; ancestors, the plain side. -/
namespace Go.Proofs.YtjpbmbonccenfaaDoor
open Go.RowKit
set_option linter.unusedVariables false

/-- The first error of a history, from version i on. -/
def ckH : Int → List (List Int) → Int
  | _, [] => 0
  | i, l :: ls => if isSet i l = false then 1 else ckH (i + 1) ls
/-- CheckHistory. -/
def checkHist (L : List (List Int)) : Int := if 256 < L.length then 3 else ckH 0 L
theorem ckH_at {L : List (List Int)} {k : Nat} {l : List Int} (h : Hid (L[k]? = some l)) : ckH k (L.drop k) = if isSet k l = false then 1 else ckH (k + 1) (L.drop (k + 1)) := by
  have hk : k < L.length := (List.getElem?_eq_some_iff.1 h.out).1
  have he : L[k] = l := (List.getElem?_eq_some_iff.1 h.out).2
  rw [List.drop_eq_getElem_cons hk, he, ckH]
/-- A history that is valid. -/
def ValH (L : List (List Int)) : Prop := L.length ≤ 256 ∧ ∀ (k : Nat) l, L[k]? = some l → isSet k l = true
theorem ckH_facts : ∀ {L : List (List Int)} {i : Int}, ckH i L = 0 → ∀ (k : Nat) l, L[k]? = some l → isSet (i + k) l = true
  | [], _, _, k, l, h => by simp at h
  | m :: L, i, h, k, l, hk => by
    rw [ckH] at h
    split at h
    · cases h
    · rename_i hm
      cases k with
      | zero => simp at hk; subst hk; simpa using hm
      | succ k =>
        simp at hk
        have := ckH_facts h k l hk
        rw [show i + ((k + 1 : Nat) : Int) = i + 1 + k by omega]
        exact this
theorem valH {L : List (List Int)} (h : checkHist L = 0) : ValH L := by
  unfold checkHist at h
  split at h
  · cases h
  · refine ⟨by omega, fun k l hk => ?_⟩
    have := ckH_facts h k l hk
    simpa using this

def setAll (bs : List Bool) (l : List Int) : List Bool := l.foldl (fun b x => b.set x.toNat true) bs
/-- From version x - 1 down. -/
def ancUp (P : List (List Int)) : Nat → List Bool → List Bool
  | 0, bs => bs
  | x + 1, bs => ancUp P x (if bs.getD x false then setAll bs (P.getD x []) else bs)
/-- The ancestors of a set. -/
def ancOf (P : List (List Int)) (S : List Int) : List Int := pickedOf (ancUp P P.length (setAll (List.replicate P.length false) S))

theorem setAll_len : ∀ (l : List Int) (bs : List Bool), (setAll bs l).length = bs.length
  | [], _ => rfl
  | x :: l, bs => by
    show (setAll (bs.set x.toNat true) l).length = _
    rw [setAll_len l]; simp
theorem setAll_snoc {l : List Int} {k : Nat} {x : Int} (h : Hid (l[k]? = some x)) (bs : List Bool) : setAll bs (l.take (k + 1)) = (setAll bs (l.take k)).set x.toNat true := by
  rw [List.take_add_one, h.out]; simp [setAll]
theorem inB_setAll : ∀ (l : List Int) (bs : List Bool), InR bs.length l → ∀ i, inB (setAll bs l) i = (inB bs i || decide (i ∈ l))
  | [], bs, _, i => by simp [setAll]
  | x :: l, bs, h, i => by
    have hx := h x (by simp)
    show inB (setAll (bs.set x.toNat true) l) i = _
    rw [inB_setAll l _ (fun y hy => by have := h y (by simp [hy]); simpa using this), inB_set hx.1 (by omega)]
    by_cases e : i = x <;> simp [e]
theorem ancUp_len (P : List (List Int)) : ∀ (x : Nat) (bs : List Bool), (ancUp P x bs).length = bs.length
  | 0, _ => rfl
  | x + 1, bs => by
    rw [ancUp, ancUp_len P x]
    split
    · rw [setAll_len]
    · rfl
structure AInv (P : List (List Int)) (S : List Int) (bs : List Bool) (x : Nat) : Prop where
  base : ∀ s ∈ S, inB bs s = true
  step : ∀ y : Int, x ≤ y → inB bs y = true → ∀ z ∈ needsOf P y, inB bs z = true
  least : ∀ D : Int → Bool, (∀ s ∈ S, D s = true) → (∀ y, D y = true → ∀ z ∈ needsOf P y, D z = true) → ∀ y, inB bs y = true → D y = true
theorem ainv_down {P : List (List Int)} {S : List Int} (hP : ∀ (k : Nat) l, P[k]? = some l → isSet k l = true) : ∀ (x : Nat) (bs : List Bool), x ≤ bs.length → AInv P S bs x → AInv P S (ancUp P x bs) 0
  | 0, _, _, h => h
  | x + 1, bs, hx, h => by
    rw [ancUp]
    refine ainv_down hP x _ (by split; (rw [setAll_len]; omega); omega) ?_
    have hpr : ∀ z ∈ P.getD x [], 0 ≤ z ∧ z < x := fun z hz => by
      rw [List.getD_eq_getElem?_getD] at hz
      cases hg : P[x]? with
      | none => rw [hg] at hz; cases hz
      | some l =>
        rw [hg] at hz
        exact (isSet_iff.1 (hP x l hg)).1 z hz
    by_cases hb : bs.getD x false = true
    · rw [if_pos hb]
      have hin : InR bs.length (P.getD x []) := fun z hz => by have := hpr z hz; omega
      have hbx : inB bs x = true := by unfold inB; simpa using hb
      refine ⟨fun s hs => by rw [inB_setAll _ _ hin, h.base s hs]; rfl, fun y hy hyb z hz => ?_, fun D d1 d2 y hy => ?_⟩
      · rw [inB_setAll _ _ hin] at hyb ⊢
        rw [Bool.or_eq_true, decide_eq_true_eq] at hyb ⊢
        by_cases e : y = x
        · subst e
          right
          unfold needsOf at hz
          simpa using hz
        · rcases hyb with hyb | hyb
          · exact .inl (h.step y (by omega) hyb z hz)
          · have := hpr y hyb; omega
      · rw [inB_setAll _ _ hin, Bool.or_eq_true, decide_eq_true_eq] at hy
        rcases hy with hy | hy
        · exact h.least D d1 d2 y hy
        · exact d2 x (h.least D d1 d2 x hbx) y (by unfold needsOf; simpa using hy)
    · rw [if_neg hb]
      refine ⟨h.base, fun y hy hyb z hz => ?_, h.least⟩
      by_cases e : y = x
      · subst e
        unfold inB at hyb
        simp at hyb hb
        rw [hb] at hyb; cases hyb
      · exact h.step y (by omega) hyb z hz
theorem ainv_done {P : List (List Int)} {S : List Int} {bs : List Bool} (h : AInv P S bs 0) : IsCl P S (inB bs) :=
  ⟨h.base, fun y hy z hz => h.step y (inB_lt hy).1 hy z hz, h.least⟩
theorem inB_repl (n : Nat) (i : Int) : inB (List.replicate n false) i = false := by
  unfold inB
  by_cases h : i.toNat < n <;> simp [List.getElem?_replicate, h]
theorem anc_cl {P : List (List Int)} {S : List Int} (hP : ∀ (k : Nat) l, P[k]? = some l → isSet k l = true) (hS : InR P.length S) : IsCl P S (inB (ancUp P P.length (setAll (List.replicate P.length false) S))) := by
  have hin : InR (List.replicate P.length false).length S := fun x hx => by simpa using hS x hx
  refine ainv_done (ainv_down hP _ _ (by rw [setAll_len]; simp) ⟨fun s hs => by rw [inB_setAll _ _ hin]; simp [hs], fun y hy hyb z hz => ?_, fun D d1 d2 y hy => ?_⟩)
  · have := inB_lt hyb
    rw [setAll_len] at this
    simp at this
    omega
  · rw [inB_setAll _ _ hin, inB_repl] at hy
    simp at hy
    exact d1 y hy
theorem anc_one {P : List (List Int)} (hP : ∀ (k : Nat) l, P[k]? = some l → isSet k l = true) {v : Nat} (hv : v < P.length) : IsCl P [(v : Int)] (inB (ancUp P (v + 1) ((List.replicate (v + 1) false).set v true))) := by
  have e : ∀ i : Int, inB ((List.replicate (v + 1) false).set v true) i = decide (i = v) := fun i => by
    have := inB_set (bs := List.replicate (v + 1) false) (x := (v : Int)) (by omega) (by simp) i
    rw [inB_repl] at this
    simpa using this
  refine ainv_done (ainv_down hP _ _ (by simp) ⟨fun s hs => by rw [e]; simpa using hs, fun y hy hyb z hz => ?_, fun D d1 d2 y hy => ?_⟩)
  · rw [e] at hyb; simp at hyb; omega
  · rw [e] at hy; simp at hy; subst hy; exact d1 _ (by simp)
/-- What is closed and smallest is one thing alone. -/
theorem cl_uniq {P : List (List Int)} {S : List Int} {bs cs : List Bool} (h : IsCl P S (inB bs)) (k : IsCl P S (inB cs)) : pickedOf bs = pickedOf cs :=
  sorted_ext (picked_sorted bs) (picked_sorted cs) fun x => by
    rw [mem_picked, mem_picked]
    exact ⟨h.least _ k.base k.step x, k.least _ h.base h.step x⟩
theorem anc_prog {P : List (List Int)} (h : ValH P) {v : Nat} (hv : v < P.length) : pickedOf (ancUp P (v + 1) ((List.replicate (v + 1) false).set v true)) = ancOf P [(v : Int)] :=
  cl_uniq (anc_one h.2 hv) (anc_cl h.2 (fun x hx => by simp at hx; omega))
theorem mem_anc {P : List (List Int)} {S : List Int} (h : ValH P) (hS : InR P.length S) : IsCl P S (fun x => decide (x ∈ ancOf P S)) := by
  have := anc_cl h.2 hS
  have e : (fun x => decide (x ∈ ancOf P S)) = inB (ancUp P P.length (setAll (List.replicate P.length false) S)) := by
    funext x
    unfold ancOf
    rw [Bool.eq_iff_iff, decide_eq_true_eq, mem_picked]
  rw [e]; exact this
theorem anc_set {P : List (List Int)} (S : List Int) : isSet P.length (ancOf P S) = true := by
  have := picked_set (ancUp P P.length (setAll (List.replicate P.length false) S))
  rw [ancUp_len, setAll_len, List.length_replicate] at this
  exact this
end Go.Proofs.YtjpbmbonccenfaaDoor

/- ancestors of the program. -/
namespace Go.Proofs.YtjpbmbonccenfaaDoor
open Go.RowKit
set_option linter.unusedVariables false

/-- The boolean array in its block. -/
def BolAt (w : World) (B : Nat) (bs : List Bool) : Prop := Blk w B 4 (bs.map Value.bool).toArray
theorem BolAt.set_ {w : World} {B : Nat} {bs : List Bool} (h : BolAt w B bs) (j : Nat) (b : Bool) : BolAt (w.setCell ⟨B, j, none⟩ (.bool b)) B (bs.set j b) := Blk.setB h j b
theorem BolAt.cell {w : World} {B : Nat} {bs : List Bool} (h : BolAt w B bs) {j : Nat} {b : Bool} (hj : bs[j]? = some b) : w.cell? ⟨B, j, none⟩ = some (.bool b) ∧ w.frozen? ⟨B, j, none⟩ = false :=
  ⟨Blk.cell h j (by simp [hj]), Blk.frozen h j⟩

theorem ancUp_yes {P : List (List Int)} {x : Nat} {bs : List Bool} {l : List Int} (hb : bs[x]? = some true) (hl : P[x]? = some l) : ancUp P (x + 1) bs = ancUp P x (setAll bs l) := by
  rw [ancUp, if_pos (by simp [hb])]
  simp [hl]
theorem ancUp_no {P : List (List Int)} {x : Nat} {bs : List Bool} (hb : bs[x]? = some false) : ancUp P (x + 1) bs = ancUp P x bs := by
  rw [ancUp, if_neg (by simp [hb])]

end Go.Proofs.YtjpbmbonccenfaaDoor

/- ancestors of the reference. -/
namespace Go.Proofs.YtjpbmbonccenfaaDoor
open Go.RowKit
set_option linter.unusedVariables false

theorem set_keep {bs : List Bool} {x y : Nat} (h : bs[x]? = some true) : (bs.set y true)[x]? = some true := by
  by_cases e : y = x
  · subst e
    rw [List.getElem?_set_self (List.getElem?_eq_some_iff.1 h).1]
  · rw [List.getElem?_set_ne e]; exact h

end Go.Proofs.YtjpbmbonccenfaaDoor

/- Histories: CheckHistory. -/
namespace Go.Proofs.YtjpbmbonccenfaaDoor
open Go.RowKit
set_option linter.unusedVariables false

end Go.Proofs.YtjpbmbonccenfaaDoor

/- choose: the candidate that divides best; the program's. -/
namespace Go.Proofs.YtjpbmbonccenfaaDoor
open Go.RowKit
set_option linter.unusedVariables false

theorem withoutN_any (A B : Option Addr) (ca cb : Nat) (xs ys : List Int) (w : World) (ha : Rd w (.int .i64) A ca xs) (hb : Rd w (.int .i64) B cb ys) (hlen : xs.length ≤ 1000000) :
    Calls Tryd.prog 67 #[.slice A xs.length ca, .slice B ys.length cb] w (RetN w 3 (minus xs ys)) :=
  (without_any A B ca cb xs ys w ha hb hlen).mono fun e w' h => h.n
theorem MinusR_any (A B : Option Addr) (ca cb : Nat) (xs ys : List Int) (w : World) (ha : Rd w (.int .i64) A ca xs) (hb : Rd w (.int .i64) B cb ys) (hlen : xs.length ≤ 1000000) :
    Calls Tryd.prog 22 #[.slice A xs.length ca, .slice B ys.length cb] w (RetN w 3 (minus xs ys)) :=
  (Minus_any A B ca cb xs ys w ha hb hlen).mono fun e w' h => h.n

/-- The elements of a set that are in another one. -/
def bothL (a b : List Int) : List Int := minus a (minus a b)
theorem both_le (a b : List Int) : (bothL a b).length ≤ a.length := minus_le _ _
theorem mem_both {a b : List Int} {x : Int} : x ∈ bothL a b ↔ x ∈ a ∧ x ∈ b := by
  unfold bothL
  rw [mem_minus, mem_minus]
  constructor
  · rintro ⟨h1, h2⟩
    refine ⟨h1, ?_⟩
    by_cases hb : x ∈ b
    · exact hb
    · exact absurd ⟨h1, hb⟩ h2
  · rintro ⟨h1, h2⟩
    exact ⟨h1, fun h => h.2 h2⟩
def chW (P : List (List Int)) (cand : List Int) (v : Int) : Int := min ((bothL cand (ancOf P [v])).length : Int) ((cand.length : Int) - (bothL cand (ancOf P [v])).length)
def chStep (P : List (List Int)) (cand : List Int) (b : Int × Int) (v : Int) : Int × Int := if b.1 < chW P cand v then (chW P cand v, v) else b
/-- The candidate that divides best; -1: there is none. -/
def chooseOf (P : List (List Int)) (cand skip : List Int) : Int := ((minus cand skip).foldl (chStep P cand) (-1, -1)).2
theorem chW_nonneg (P : List (List Int)) (cand : List Int) (v : Int) : 0 ≤ chW P cand v ∧ chW P cand v ≤ cand.length := by
  have := both_le cand (ancOf P [v])
  unfold chW; omega
theorem ch_yes {P : List (List Int)} {cand skip : List Int} {k : Nat} {v : Int} {b : Int × Int} (hx : Hid (cand[k]? = some v)) (hs : v ∉ skip) :
    (minus (cand.take (k + 1)) skip).foldl (chStep P cand) b = chStep P cand ((minus (cand.take k) skip).foldl (chStep P cand) b) v := by
  rw [minus_miss hx hs]; simp
theorem ch_no {P : List (List Int)} {cand skip : List Int} {k : Nat} {v : Int} {b : Int × Int} (hx : Hid (cand[k]? = some v)) (hs : v ∈ skip) :
    (minus (cand.take (k + 1)) skip).foldl (chStep P cand) b = (minus (cand.take k) skip).foldl (chStep P cand) b := by
  rw [minus_hit hx hs]
theorem chFold_bnd {P : List (List Int)} {cand : List Int} : ∀ (xs : List Int) (b : Int × Int), -1 ≤ b.1 → b.1 ≤ cand.length → -1 ≤ (xs.foldl (chStep P cand) b).1 ∧ (xs.foldl (chStep P cand) b).1 ≤ cand.length
  | [], b, h1, h2 => ⟨h1, h2⟩
  | x :: xs, b, h1, h2 => by
    have := chW_nonneg P cand x
    refine chFold_bnd xs _ ?_ ?_ <;> (unfold chStep; split <;> (first | omega | (simp only; omega)))

end Go.Proofs.YtjpbmbonccenfaaDoor
