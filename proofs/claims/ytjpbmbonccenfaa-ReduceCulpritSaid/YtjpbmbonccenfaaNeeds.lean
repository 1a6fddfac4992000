/- Slices of slices of numbers; CheckNeeds. -/
import Derived.Test.YtjpbmbonccenfaaRef2
import Derived.WalkSmall
import Derived.Deep.LoopGhost
namespace Go.Proofs.Ytjpbmbonccenfaa
open Go.RowKit
set_option linter.unusedVariables false

/-- A slice that reads as a list of lists of numbers. -/
structure Rss (w : World) (A : Option Addr) (c : Nat) (L : List (List Int)) : Prop where
  le : L.length ≤ c
  cap : c ≤ maxLen
  at0 : 0 < L.length → ∃ b off, A = some ⟨b, off, none⟩ ∧ ∀ k l, L[k]? = some l → ∃ A' c', w.cell? ⟨b, off + k, none⟩ = some (.slice A' l.length c') ∧ Rd w (.int .i64) A' c' l
section
variable {w w' : World} {A : Option Addr} {c : Nat} {L : List (List Int)} {S : List Nat}
theorem Rss.at_ (h : Rss w A c L) {k : Nat} (hk : k < L.length) : ∃ b off l A' c', A = some ⟨b, off, none⟩ ∧ Hid (L[k]? = some l) ∧ w.cell? ⟨b, off + k, none⟩ = some (.slice A' l.length c') ∧ Rd w (.int .i64) A' c' l := by
  obtain ⟨b, off, hA, hc⟩ := h.at0 (by omega)
  obtain ⟨A', c', h1, h2⟩ := hc k L[k] (List.getElem?_eq_getElem hk)
  exact ⟨b, off, L[k], A', c', hA, List.getElem?_eq_getElem hk, h1, h2⟩
theorem Rss.bound (h : Rss w A c L) : L.length ≤ 9223372036854775807 := by
  have h1 := h.le
  have h2 := h.cap
  unfold maxLen at h2
  omega
theorem Rss.fr0 (h : Rss w A c L) (hf : Fr [] w w') : Rss w' A c L :=
  ⟨h.le, h.cap, fun h0 => by
    obtain ⟨b, off, hA, hc⟩ := h.at0 h0
    refine ⟨b, off, hA, fun k l hl => ?_⟩
    obtain ⟨A', c', h1, h2⟩ := hc k l hl
    exact ⟨A', c', hf.cell h1 (by simp), h2.fr0 hf⟩⟩
theorem Rss.drewN (h : Rss w A c L) (n : Nat) : Rss (w.drewN n) A c L := h.fr0 ((Fr.refl _ _).drewN n)
end

/-- The first error of needs, from change i on; n: how many changes there are. -/
def ckN (n : Int) : Int → List (List Int) → Int
  | _, [] => 0
  | i, l :: ls => if isSet n l = false ∨ i ∈ l then 1 else ckN n (i + 1) ls
/-- CheckNeeds. -/
def checkNeeds (L : List (List Int)) : Int := if 256 < L.length then 3 else ckN L.length 0 L
theorem ckN_at {n : Int} {L : List (List Int)} {k : Nat} {l : List Int} (h : Hid (L[k]? = some l)) (i : Int) : ckN n i (L.drop k) = if isSet n l = false ∨ i ∈ l then 1 else ckN n (i + 1) (L.drop (k + 1)) := by
  have hk : k < L.length := (List.getElem?_eq_some_iff.1 h.out).1
  have he : L[k] = l := (List.getElem?_eq_some_iff.1 h.out).2
  rw [List.drop_eq_getElem_cons hk, he, ckN]

set_option maxHeartbeats 1600000 in
theorem CheckNeeds_any (A : Option Addr) (c : Nat) (L : List (List Int)) (w : World) (ha : Rss w A c L) :
    Calls Try.prog 52 #[.slice A L.length c] w (RetQ w (.int .i64 (checkNeeds L))) := by
  have hbd := ha.bound
  by_cases h256 : 256 < L.length
  · have hr := Lib.hid (show checkNeeds L = 3 by simp [checkNeeds, h256])
    go_enter Try.func52, Try.ntmps52
    go_wp2
    go_ret
    exact ⟨ret_int hr.out.symm, 0, rfl⟩
  · have hr := Lib.hid (show checkNeeds L = ckN L.length 0 L by simp [checkNeeds, h256])
    have hle : L.length ≤ 256 := by omega
    go_enter Try.func52, Try.ntmps52
    go_wp2
    go_loopw [10] (fun i wr => ∃ k : Nat, k ≤ L.length ∧ i = .int .i64 k ∧ Hid (checkNeeds L = ckN L.length k (L.drop k)) ∧ ∃ m, wr = w.drewN m) (fun i _ => L.length - (intOf i).toNat)
    case atStart => exact ⟨0, Nat.zero_le _, rfl, by show _ = _; rw [hr.out]; simp, 0, rfl⟩
    case round =>
      clear hr
      obtain ⟨k, hk, rfl, HE, m, rfl⟩ := hrel
      by_cases hlt : k < L.length
      · obtain ⟨b1, o1, l, A1, c1, rfl, hx, hc1, hr1⟩ := ha.at_ hlt
        have hst := ckN_at hx (n := L.length) (i := k)
        by_cases hs : isSet (L.length : Int) l = true
        · by_cases hm : (k : Int) ∈ l
          · have hd : decide ((k : Int) ∈ l) = true := by simpa using hm
            rw [if_pos (.inr hm)] at hst
            have HF : Hid (checkNeeds L = 1) := HE.out.trans hst
            clear hst hm
            go_wp2_with (first | (go_at_call 53; refine (rising_any A1 c1 l L.length _ (hr1.drewN _)).mono ?_; rintro e w' ⟨rfl, n1, rfl⟩) | (go_at_call 55; refine (has_any A1 c1 l k _ (hr1.drewN _)).mono ?_; rintro e w' ⟨rfl, n2, rfl⟩))
            go_ret
            exact ⟨ret_int HF.out.symm, _, by first | rfl | exact World.drewN_drewN ..⟩
          · have hd : decide ((k : Int) ∈ l) = false := by simpa using hm
            rw [if_neg (by simp [hs, hm])] at hst
            have HF : Hid (checkNeeds L = ckN L.length (k + 1) (L.drop (k + 1))) := HE.out.trans hst
            clear hst hm
            go_wp2_with (first | (go_at_call 53; refine (rising_any A1 c1 l L.length _ (hr1.drewN _)).mono ?_; rintro e w' ⟨rfl, n1, rfl⟩) | (go_at_call 55; refine (has_any A1 c1 l k _ (hr1.drewN _)).mono ?_; rintro e w' ⟨rfl, n2, rfl⟩))
            go_roundw
            case rel => exact ⟨k + 1, by omega, by go_num, HF, _, by first | rfl | exact World.drewN_drewN ..⟩
            case measure => simp [intOf]; omega
        · have hs' : isSet (L.length : Int) l = false := by simpa using hs
          rw [if_pos (.inl hs')] at hst
          have HF : Hid (checkNeeds L = 1) := HE.out.trans hst
          clear hst hs
          go_wp2_with (first | (go_at_call 53; refine (rising_any A1 c1 l L.length _ (hr1.drewN _)).mono ?_; rintro e w' ⟨rfl, n1, rfl⟩) | (go_at_call 55; refine (has_any A1 c1 l k _ (hr1.drewN _)).mono ?_; rintro e w' ⟨rfl, n2, rfl⟩))
          go_ret
          exact ⟨ret_int HF.out.symm, _, by first | rfl | exact World.drewN_drewN ..⟩
      · have HF : Hid (checkNeeds L = 0) := by
          show _ = _
          rw [HE.out, List.drop_of_length_le (by omega), ckN]
        go_wp2
        go_ret
        exact ⟨ret_int HF.out.symm, _, rfl⟩

/-- The numbers that are set. -/
def pickedOf (bs : List Bool) : List Int := ((List.range bs.length).filter fun k => bs.getD k false).map fun (k : Nat) => (k : Int)
def pickUpto (bs : List Bool) (k : Nat) : List Int := ((List.range k).filter fun k => bs.getD k false).map fun (k : Nat) => (k : Int)
theorem pick_yes {bs : List Bool} {k : Nat} (h : Hid (bs[k]? = some true)) : pickUpto bs (k + 1) = pickUpto bs k ++ [(k : Int)] := by
  simp [pickUpto, List.range_succ, List.filter_append, h.out]
theorem pick_no {bs : List Bool} {k : Nat} (h : Hid (bs[k]? = some false)) : pickUpto bs (k + 1) = pickUpto bs k := by
  simp [pickUpto, List.range_succ, List.filter_append, h.out]
theorem pick_le (bs : List Bool) (k : Nat) : (pickUpto bs k).length ≤ k := by
  unfold pickUpto
  rw [List.length_map]
  exact Nat.le_trans (List.length_filter_le _ _) (by simp)

set_option maxHeartbeats 1600000 in
theorem picked_any (A : Option Addr) (c : Nat) (bs : List Bool) (w : World) (ha : Rd w .bool A c bs) (hlen : bs.length ≤ 1000000) :
    Calls Try.prog 69 #[.slice A bs.length c] w (RetN w 3 (pickedOf bs)) := by
  go_enter Try.func69, Try.ntmps69
  go_wp2
  go_loop [3, 11] (fun n i => ∃ (k m : Nat), k ≤ bs.length ∧ m ≤ k ∧ i = .int .i64 k ∧ n = .int .i64 m) (fun _ i => bs.length - (intOf i).toNat)
  case atStart => exact ⟨0, 0, Nat.zero_le _, Nat.le_refl _, rfl, rfl⟩
  case round =>
    obtain ⟨k, m, hk, hm, rfl, rfl⟩ := hrel
    by_cases hlt : k < bs.length
    · obtain ⟨b1, o1, x, rfl, hx, hc1⟩ := ha.at_ hlt
      cases x
      · go_wp2
        go_round
        case rel => exact ⟨k + 1, m, by omega, by omega, by go_num, rfl⟩
        case measure => simp [intOf]; omega
      · go_wp2
        go_round
        case rel => exact ⟨k + 1, m + 1, by omega, by omega, by go_num, by go_num⟩
        case measure => simp [intOf]; omega
    · go_wp2_with (at_make; refine wpList_make0 rfl _ _ _ rfl elemInts m rfl rfl (by omega) ?_; intro w0 hown0 hg0)
      go_loopw [6, 23] (fun v i wr => ∃ k : Nat, k ≤ bs.length ∧ i = .int .i64 k ∧ GathN w 3 (pickUpto bs k) v wr) (fun _ i _ => bs.length - (intOf i).toNat)
      case atStart => exact ⟨0, Nat.zero_le _, rfl, GathN.made (Fr.refl _ _) hown0 hg0 (by simp [pickUpto])⟩
      case round =>
        clear hown0 hg0
        obtain ⟨k, hk, rfl, A1, c1, rfl, hown, hf⟩ := hrel
        have hpl := pick_le bs k
        by_cases hlt : k < bs.length
        · obtain ⟨b1, o1, x, rfl, hx, hc1⟩ := (ha.fr0 hf).at_ hlt
          cases x
          · go_wp2
            go_roundw
            case rel => exact ⟨k + 1, by omega, by go_num, GathN.same hf hown (by rw [pick_no hx])⟩
            case measure => simp [intOf]; omega
          · go_wp2_with (at_builtin; refine wpList_append_rd rfl (.tmp 29) (.tmp 31) _ rfl elemInts (.slice A1 (pickUpto bs k).length c1) _ rfl (hown.alloc _) _ _ [(k : Int)] (.int .i64) rfl (Rd.one _ _ _ _) one_i64 (by simp; omega) (by simp; have := hf.size; omega) ?_; intro A2 c2 w2 hown2 hg2 hat2)
            go_roundw
            case rel => exact ⟨k + 1, by omega, by go_num, GathN.snoc (hf.alloc _) (hown.alloc _) hg2 hown2 (by rw [pick_yes hx]; simp)⟩
            case measure => simp [intOf]; omega
        · go_wp2
          go_ret
          exact GathN.ret hf hown (by rw [show k = bs.length by omega]; rfl)
end Go.Proofs.Ytjpbmbonccenfaa
