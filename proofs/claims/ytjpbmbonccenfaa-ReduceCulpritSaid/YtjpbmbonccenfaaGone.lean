/- reduced: a closed set without an element and what needs it. -/
import Derived.Test.YtjpbmbonccenfaaClose2
import Derived.Test.YtjpbmbonccenfaaRBis
namespace Go.Proofs.Ytjpbmbonccenfaa
open Go.RowKit
set_option linter.unusedVariables false

/-- What is gone with an element. -/
structure IsGn (L : List (List Int)) (set : List Int) (i : Int) (G : Int → Bool) : Prop where
  base : G i = true
  step : ∀ x ∈ set, ∀ y ∈ needsOf L x, G y = true → G x = true
  least : ∀ D : Int → Bool, D i = true → (∀ x ∈ set, ∀ y ∈ needsOf L x, D y = true → D x = true) → ∀ x, G x = true → D x = true
/-- What is known all the time. -/
structure GnInv (L : List (List Int)) (set : List Int) (i : Int) (gs : List Bool) : Prop where
  len : gs.length = L.length
  base : inB gs i = true
  least : ∀ D : Int → Bool, D i = true → (∀ x ∈ set, ∀ y ∈ needsOf L x, D y = true → D x = true) → ∀ x, inB gs x = true → D x = true
/-- A pass has found nothing up to place k. -/
def PassOk (L : List (List Int)) (set : List Int) (gs : List Bool) (k : Nat) : Prop := ∀ k' x, k' < k → set[k']? = some x → ∀ y ∈ needsOf L x, inB gs y = true → inB gs x = true
def InnerOk (l : List Int) (gs : List Bool) (x : Int) (j : Nat) : Prop := ∀ j' y, j' < j → l[j']? = some y → inB gs y = true → inB gs x = true
theorem InnerOk.succ {l : List Int} {gs : List Bool} {x y : Int} {j : Nat} (h : InnerOk l gs x j) (hy : l[j]? = some y) (hh : inB gs y = true → inB gs x = true) : InnerOk l gs x (j + 1) := fun j' z hj hz hg => by
  by_cases e : j' = j
  · subst e
    rw [hy] at hz; injection hz with hz; subst hz
    exact hh hg
  · exact h j' z (by omega) hz hg
theorem PassOk.succ {L : List (List Int)} {set : List Int} {gs : List Bool} {k : Nat} {x : Int} (h : PassOk L set gs k) (hx : set[k]? = some x) (hi : InnerOk (needsOf L x) gs x (needsOf L x).length) : PassOk L set gs (k + 1) := fun k' z hk hz y hy hg => by
  by_cases e : k' = k
  · subst e
    rw [hx] at hz; injection hz with hz; subst hz
    obtain ⟨j, hj, e⟩ := List.mem_iff_getElem.1 hy
    exact hi j y hj (by rw [List.getElem?_eq_getElem hj, e]) hg
  · exact h k' z (by omega) hz y hy hg
theorem GnInv.start {L : List (List Int)} (set : List Int) {i : Nat} (hi : i < L.length) : GnInv L set i ((List.replicate L.length false).set i true) :=
  ⟨by simp, by rw [show i = ((i : Int)).toNat from rfl, inB_set (by omega) (by simpa using hi)]; simp, fun D h1 _ x hx => by
    rw [show i = ((i : Int)).toNat from rfl, inB_set (by omega) (by simpa using hi)] at hx
    simp only [Bool.or_eq_true, decide_eq_true_eq] at hx
    rcases hx with hx | hx
    · unfold inB at hx; simp [List.getElem?_replicate] at hx
      obtain ⟨_, hx⟩ := hx
      split at hx <;> simp at hx
    · subst hx; exact h1⟩
theorem GnInv.add {L : List (List Int)} {set : List Int} {i : Int} {gs : List Bool} {x y : Int} (h : GnInv L set i gs) (hx : x ∈ set) (hy : y ∈ needsOf L x) (hg : inB gs y = true) (h0 : 0 ≤ x) (h1 : x.toNat < gs.length) : GnInv L set i (gs.set x.toNat true) :=
  ⟨by simpa using h.len, by rw [inB_set h0 h1, h.base]; rfl, fun D d1 d2 z hz => by
    rw [inB_set h0 h1] at hz
    simp only [Bool.or_eq_true, decide_eq_true_eq] at hz
    rcases hz with hz | hz
    · exact h.least D d1 d2 z hz
    · subst hz; exact d2 z hx y hy (h.least D d1 d2 y hg)⟩
theorem GnInv.done {L : List (List Int)} {set : List Int} {i : Int} {gs : List Bool} (h : GnInv L set i gs) (hp : PassOk L set gs set.length) : IsGn L set i (inB gs) :=
  ⟨h.base, fun x hx y hy hg => by
    obtain ⟨k, hk, e⟩ := List.mem_iff_getElem.1 hx
    exact hp k x hk (by rw [List.getElem?_eq_getElem hk, e]) y hy hg, h.least⟩
theorem inB_at {bs : List Bool} {j : Nat} {b : Bool} (h : bs[j]? = some b) : inB bs (j : Int) = b := by unfold inB; simp [h]

theorem Blk.setB {w : World} {g : Nat} {t : TypeId} {bs : List Bool} (h : Blk w g t (bs.map Value.bool).toArray) (j : Nat) (b : Bool) : Blk (w.setCell ⟨g, j, none⟩ (.bool b)) g t ((bs.set j b).map Value.bool).toArray := by
  simpa [List.map_set] using h.set_ j (.bool b)
/-- Within a pass. n0: how many were not gone when it began. -/
structure GnSt (w : World) (L : List (List Int)) (set : List Int) (i : Int) (B0 n0 : Nat) (ok : List Bool → Prop) (v : Value) (wr : World) : Prop where
  ex : ∃ (gs : List Bool) (b : Bool), v = .bool b ∧ Blk wr B0 4 (gs.map Value.bool).toArray ∧ gs.length = L.length ∧ Hid (GnInv L set i gs) ∧ Hid (b = false → gs.count false = n0 ∧ ok gs) ∧ Hid (b = true → gs.count false < n0) ∧ Fr [] w wr
/-- Between two passes. -/
def GnRel (w : World) (L : List (List Int)) (set : List Int) (i : Int) (B0 t : Nat) (v : Value) (wr : World) : Prop :=
  ∃ (gs : List Bool) (b : Bool), v = .bool b ∧ Blk wr B0 4 (gs.map Value.bool).toArray ∧ gs.length = L.length ∧ Hid (GnInv L set i gs) ∧ Hid (b = false → PassOk L set gs set.length) ∧ t = gs.count false * 2 + (if b then 1 else 0) ∧ Fr [] w wr
def ReducedPost (w : World) (L : List (List Int)) (set : List Int) (i : Int) (e : Ending) (w' : World) : Prop :=
  ∃ gs : List Bool, gs.length = L.length ∧ IsGn L set i (inB gs) ∧ RetN w 3 (minus set (pickedOf gs)) e w'

set_option maxRecDepth 100000 in
set_option maxHeartbeats 3200000 in
theorem reduced_any (A B : Option Addr) (c d : Nat) (L : List (List Int)) (set : List Int) (i : Nat) (w : World) (ha : Rss w A c L) (hb : Rd w (.int .i64) B d set) (hL : ∀ l ∈ L, InR L.length l) (hs : InR L.length set)
    (hn : L.length ≤ 1000000) (hi : i < L.length) (hsl : set.length ≤ 1000000) :
    Calls Try.prog 57 #[.slice A L.length c, .slice B set.length d, .int .i64 (i : Nat)] w (ReducedPost w L set i) := by
  have HL := Lib.hid hL
  have HSR := Lib.hid hs
  clear hL hs
  go_enter Try.func57, Try.ntmps57
  go_wp2_with (at_make; refine wpList_makeN rfl _ _ _ rfl elemBools2 rfl L.length rfl rfl (by omega) ?_; intro w0 hown0 hg0; have hbl0 := own_blk hown0 (by omega); rw [← List.map_replicate] at hbl0; have k0 := hbl0.cell i (u := .bool false) (by simp [hi]); have k1 := hbl0.frozen i)
  have hf0 : Fr [] w w0 := (Fr.refl _ _).grown hg0 (by simp)
  have hI : GnRel w L set i w.heap.size (((List.replicate L.length false).set i true).count false * 2 + 1) (.bool true) (w0.setCell ⟨w.heap.size, i, none⟩ (.bool true)) :=
    ⟨(List.replicate L.length false).set i true, true, rfl, hbl0.setB i true, by simp, GnInv.start set hi, (fun h => by cases h), by simp, hf0.setCell (p := ⟨w.heap.size, i, none⟩) (.inr (Nat.le_refl _)) _⟩
  clear hown0 hg0 hbl0 k0 k1 hf0
  generalize w0.setCell ⟨w.heap.size, i, none⟩ (.bool true) = w1 at hI ⊢
  generalize ((List.replicate L.length false).set i true).count false * 2 + 1 = N at hI ⊢
  go_loopg [8] N (GnRel w L set i w.heap.size)
  case atStart => exact hI
  case round =>
    clear hI
    obtain ⟨gs, b, rfl, hblk, hgl, hinv, hok, hgk, hf⟩ := hrel
    cases b
    · have hgn := Lib.hid (hinv.out.done (hok.out rfl))
      have hrb := Rd.of_blk hblk (by unfold maxLen; omega)
      rw [hgl] at hrb
      have hpk := picked_any _ _ gs wr hrb (by omega)
      rw [hgl] at hpk
      go_wp2_with fail
      refine hpk.mono ?_
      rintro e w5 ⟨A5, c5, rfl, hf5, hown5⟩
      have hF5 := hf.trans hf5
      go_wp2_with fail
      refine (without_any B A5 d c5 set (pickedOf gs) _ (hb.fr0 hF5) (Rd.of_own hown5).2 hsl).mono ?_
      intro e w6 h6
      obtain ⟨A6, c6, rfl, hf6, hown6⟩ := h6.n
      go_wp2
      go_ret
      exact ⟨gs, hgl, hgn.out, A6, c6, rfl, hF5.trans hf6, own_base hown6 hF5.size⟩
    · go_wp2_with fail
      have hbb := hb.bound
      have hI2 : GnSt w L set i w.heap.size (gs.count false) (fun gs => PassOk L set gs 0) (.bool false) wr :=
        ⟨gs, false, rfl, hblk, hgl, hinv, (fun _ => ⟨rfl, fun k' x h => by omega⟩), (fun h => by cases h), hf⟩
      have hN0 := Lib.hid hgk
      clear hblk hinv hok hgk hgl hf
      generalize gs.count false = n0 at *
      go_loopw [8, 22] (fun v kv wr => ∃ k : Nat, k ≤ set.length ∧ kv = .int .i64 k ∧ GnSt w L set i w.heap.size n0 (fun gs => PassOk L set gs k) v wr) (fun _ k _ => set.length - (intOf k).toNat)
      case atStart => exact ⟨0, Nat.zero_le _, rfl, hI2⟩
      case round =>
        clear hI2
        obtain ⟨k, hk, rfl, ⟨gs, b, rfl, hblk, hgl, hinv, hok, hok2, hf⟩⟩ := hrel
        by_cases hlt : k < set.length
        · obtain ⟨b1, o1, x, rfl, hx, hc1⟩ := (hb.fr0 hf).at_ hlt
          have hxm := List.mem_of_getElem? hx.out
          have hxr := HSR.out x hxm
          obtain ⟨xn, rfl⟩ : ∃ xn : Nat, x = xn := ⟨x.toNat, by omega⟩
          have hxl : xn < L.length := by omega
          obtain ⟨b2, o2, l, A3, c3, rfl, hl, hc2w, hr3⟩ := ha.at_ hxl
          have hc2 := hf.cell hc2w (by simp)
          have hno : Hid (needsOf L xn = l) := by show _ = _; unfold needsOf; simp [hl.out]
          have hlR := Lib.hid (HL.out l (List.mem_of_getElem? hl.out))
          go_wp2_with fail
          have hlb := hr3.bound
          go_loopw [8, 31] (fun v jv wr' => ∃ j : Nat, j ≤ l.length ∧ jv = .int .i64 j ∧ GnSt w L set i w.heap.size n0 (fun gs => PassOk L set gs k ∧ InnerOk l gs xn j) v wr') (fun _ j _ => l.length - (intOf j).toNat)
          case atStart => exact ⟨0, Nat.zero_le _, rfl, gs, b, rfl, hblk, hgl, hinv, fun h => ⟨(hok.out h).1, (hok.out h).2, fun j' y h => by omega⟩, hok2, hf⟩
          case round =>
            obtain ⟨j, hj, rfl, ⟨gs2, b', rfl, hblk, hgl, hinv, hok, hok2, hf⟩⟩ := hrel
            by_cases hltj : j < l.length
            · obtain ⟨b3, o3, y, rfl, hy, hc3⟩ := (hr3.fr0 hf).at_ hltj
              have hyr := hlR.out y (List.mem_of_getElem? hy.out)
              obtain ⟨yn, rfl⟩ : ∃ yn : Nat, y = yn := ⟨y.toNat, by omega⟩
              have hyl : yn < L.length := by omega
              obtain ⟨by_, hby⟩ : ∃ b, gs2[yn]? = some b := ⟨_, List.getElem?_eq_getElem (by omega)⟩
              obtain ⟨bx, hbx⟩ : ∃ b, gs2[xn]? = some b := ⟨_, List.getElem?_eq_getElem (by omega)⟩
              have k4 := hblk.cell yn (u := .bool by_) (by simp [hby])
              have k5 := hblk.cell xn (u := .bool bx) (by simp [hbx])
              have k6 := hblk.frozen xn
              have HY := Lib.hid (inB_at hby)
              have HX := Lib.hid (inB_at hbx)
              have HBX := Lib.hid hbx
              clear hby hbx
              have hskip : by_ = false ∨ bx = true → Hid (b' = false → gs2.count false = n0 ∧ PassOk L set gs2 k ∧ InnerOk l gs2 xn (j + 1)) := fun h hb' =>
                ⟨(hok.out hb').1, (hok.out hb').2.1, (hok.out hb').2.2.succ hy.out fun hg => by
                  rcases h with h | h
                  · rw [HY.out, h] at hg; cases hg
                  · rw [HX.out, h]⟩
              cases by_
              · have hsk := hskip (.inl rfl)
                clear hskip
                go_wp2_with fail
                go_roundw
                case rel => exact ⟨j + 1, by omega, by go_num, gs2, b', rfl, hblk, hgl, hinv, hsk, hok2, hf⟩
                case measure => simp [intOf]; omega
              · cases bx
                · clear hskip
                  have hin2 : Hid (GnInv L set i (gs2.set xn true)) := hinv.out.add (x := (xn : Int)) hxm (by rw [hno.out]; exact List.mem_of_getElem? hy.out) HY.out (by omega) (by omega)
                  have hcn : Hid ((gs2.set xn true).count false < n0) := by
                    have h1 := count_set HBX.out
                    have h2 := hok.out
                    have h3 := hok2.out
                    show _ < _
                    cases b'
                    · have := (h2 rfl).1; omega
                    · have := h3 rfl; omega
                  go_wp2_with fail
                  go_roundw
                  case rel => exact ⟨j + 1, by omega, by go_num, gs2.set xn true, true, rfl, hblk.setB xn true, by simpa using hgl, hin2, (fun h => by cases h), (fun _ => hcn.out), hf.setCell (p := ⟨w.heap.size, xn, none⟩) (.inr (Nat.le_refl _)) _⟩
                  case measure => simp [intOf]; omega
                · have hsk := hskip (.inr rfl)
                  clear hskip
                  go_wp2_with fail
                  go_roundw
                  case rel => exact ⟨j + 1, by omega, by go_num, gs2, b', rfl, hblk, hgl, hinv, hsk, hok2, hf⟩
                  case measure => simp [intOf]; omega
            · have hje : j = l.length := by omega
              subst hje
              go_wp2_with fail
              go_roundw
              case rel => exact ⟨k + 1, by omega, by go_num, gs2, b', rfl, hblk, hgl, hinv, fun h => ⟨(hok.out h).1, (hok.out h).2.1.succ hx.out (by rw [hno.out]; exact (hok.out h).2.2)⟩, hok2, hf⟩
              case measure => simp [intOf]; omega
        · have hke : k = set.length := by omega
          subst hke
          go_wp2_with fail
          go_roundg (gs.count false * 2 + (if b then 1 else 0))
          case measure =>
            have h1 : gk = n0 * 2 + 1 := hN0.out
            have h2 := hok.out
            have h3 := hok2.out
            cases b
            · have := (h2 rfl).1
              show gs.count false * 2 + 0 < gk
              omega
            · have := h3 rfl
              show gs.count false * 2 + 1 < gk
              omega
          case rel => exact ⟨gs, b, rfl, hblk, hgl, hinv, fun h => (hok.out h).2, rfl, hf⟩
end Go.Proofs.Ytjpbmbonccenfaa
