/- Needs, closed sets of the reference; Without of the program. -/
import Derived.Test.YtjpbmbonccenfaaGone
namespace Go.Proofs.Ytjpbmbonccenfaa
open Go.RowKit
set_option linter.unusedVariables false

set_option maxHeartbeats 800000 in
theorem refCheckNeeds_any (A : Option Addr) (c : Nat) (L : List (List Int)) (w : World) (ha : Rss w A c L) :
    Calls Try.prog 21 #[.slice A L.length c] w (RetQ w (.int .i64 (checkNeeds L))) := by
  have hbd := ha.bound
  by_cases h256 : 256 < L.length
  · have hr := Lib.hid (show checkNeeds L = 3 by simp [checkNeeds, h256])
    go_enter Try.func21, Try.ntmps21
    go_wp2
    go_ret
    exact ⟨ret_int hr.out.symm, 0, rfl⟩
  · have hr := Lib.hid (show checkNeeds L = ckN L.length 0 L by simp [checkNeeds, h256])
    have hle : L.length ≤ 256 := by omega
    go_enter Try.func21, Try.ntmps21
    go_wp2
    go_loopw [3] (fun i wr => ∃ k : Nat, k ≤ L.length ∧ i = .int .i64 k ∧ Hid (checkNeeds L = ckN L.length k (L.drop k)) ∧ ∃ m, wr = w.drewN m) (fun i _ => L.length - (intOf i).toNat)
    case atStart => exact ⟨0, Nat.zero_le _, rfl, by show _ = _; rw [hr.out]; simp, 0, rfl⟩
    case round =>
      clear hr
      obtain ⟨k, hk, rfl, HE, m, rfl⟩ := hrel
      by_cases hlt : k < L.length
      · obtain ⟨b1, o1, l, A1, c1, rfl, hx, hc1, hr1⟩ := ha.at_ hlt
        have hst := ckN_at hx (n := L.length) (i := k)
        by_cases hs : isSet (L.length : Int) l = true
        · by_cases hm : (k : Int) ∈ l
          · have hd : decide ((k : Int) ∈ l) = true := by simpa using hm
            rw [if_pos (.inr hm)] at hst
            have HF : Hid (checkNeeds L = 1) := HE.out.trans hst
            clear hst hm
            go_wp2_with (first | (go_at_call 22; refine (Set_any A1 c1 l L.length _ (hr1.drewN _)).mono ?_; rintro e w' ⟨rfl, n1, rfl⟩) | (go_at_call 27; refine (Has_any A1 c1 l k _ (hr1.drewN _)).mono ?_; rintro e w' ⟨rfl, n2, rfl⟩))
            go_ret
            exact ⟨ret_int HF.out.symm, _, by first | rfl | exact World.drewN_drewN ..⟩
          · have hd : decide ((k : Int) ∈ l) = false := by simpa using hm
            rw [if_neg (by simp [hs, hm])] at hst
            have HF : Hid (checkNeeds L = ckN L.length (k + 1) (L.drop (k + 1))) := HE.out.trans hst
            clear hst hm
            go_wp2_with (first | (go_at_call 22; refine (Set_any A1 c1 l L.length _ (hr1.drewN _)).mono ?_; rintro e w' ⟨rfl, n1, rfl⟩) | (go_at_call 27; refine (Has_any A1 c1 l k _ (hr1.drewN _)).mono ?_; rintro e w' ⟨rfl, n2, rfl⟩))
            go_roundw
            case rel => exact ⟨k + 1, by omega, by go_num, HF, _, by first | rfl | exact World.drewN_drewN ..⟩
            case measure => simp [intOf]; omega
        · have hs' : isSet (L.length : Int) l = false := by simpa using hs
          rw [if_pos (.inl hs')] at hst
          have HF : Hid (checkNeeds L = 1) := HE.out.trans hst
          clear hst hs
          go_wp2_with (first | (go_at_call 22; refine (Set_any A1 c1 l L.length _ (hr1.drewN _)).mono ?_; rintro e w' ⟨rfl, n1, rfl⟩) | (go_at_call 27; refine (Has_any A1 c1 l k _ (hr1.drewN _)).mono ?_; rintro e w' ⟨rfl, n2, rfl⟩))
          go_ret
          exact ⟨ret_int HF.out.symm, _, by first | rfl | exact World.drewN_drewN ..⟩
      · have HF : Hid (checkNeeds L = 0) := by
          show _ = _
          rw [HE.out, List.drop_of_length_le (by omega), ckN]
        go_wp2
        go_ret
        exact ⟨ret_int HF.out.symm, _, rfl⟩

/-- Does a set contain all that its elements need? -/
def isClosedB (L : List (List Int)) (set : List Int) : Bool := set.all fun x => decide (minus (needsOf L x) set = [])
theorem all_take_succ {f : Int → Bool} {xs : List Int} {k : Nat} {x : Int} (h : Hid (xs[k]? = some x)) (ha : Hid ((xs.take k).all f = true)) (hx : f x = true) : Hid ((xs.take (k + 1)).all f = true) := by
  show _ = _
  rw [List.take_add_one, h.out, List.all_append, ha.out]
  simp [hx]
theorem all_false {f : Int → Bool} {xs : List Int} {k : Nat} {x : Int} (h : Hid (xs[k]? = some x)) (hx : f x = false) : xs.all f = false := by
  rw [← Bool.not_eq_true, List.all_eq_true]
  intro ha
  have := ha x (List.mem_of_getElem? h.out)
  rw [hx] at this; cases this

set_option maxHeartbeats 800000 in
theorem refClosed_any (A B : Option Addr) (c d : Nat) (L : List (List Int)) (set : List Int) (w : World) (ha : Rss w A c L) (hb : Rd w (.int .i64) B d set) (hs : InR L.length set) (hlen : ∀ l ∈ L, l.length ≤ 1000000) :
    Calls Try.prog 24 #[.slice A L.length c, .slice B set.length d] w (RetV w (.bool (isClosedB L set))) := by
  have hbb := hb.bound
  have HS := Lib.hid hs
  have HLN := Lib.hid hlen
  clear hs hlen
  go_enter Try.func24, Try.ntmps24
  go_wp2
  go_loopw [5] (fun i wr => ∃ k : Nat, k ≤ set.length ∧ i = .int .i64 k ∧ Hid ((set.take k).all (fun x => decide (minus (needsOf L x) set = [])) = true) ∧ Fr [] w wr) (fun i _ => set.length - (intOf i).toNat)
  case atStart => exact ⟨0, Nat.zero_le _, rfl, by show _ = _; simp, Fr.refl _ _⟩
  case round =>
    obtain ⟨k, hk, rfl, hall, hf⟩ := hrel
    by_cases hlt : k < set.length
    · obtain ⟨b1, o1, x, rfl, hx, hc1⟩ := (hb.fr0 hf).at_ hlt
      have hxr := HS.out x (List.mem_of_getElem? hx.out)
      obtain ⟨xn, rfl⟩ : ∃ xn : Nat, x = xn := ⟨x.toNat, by omega⟩
      obtain ⟨b2, o2, l, A3, c3, rfl, hl, hc2, hr3⟩ := (ha.fr0 hf).at_ (k := xn) (by omega)
      have hno : Hid (needsOf L xn = l) := by show _ = _; unfold needsOf; simp [hl.out]
      have hll := HLN.out l (List.mem_of_getElem? hl.out)
      go_wp2_with fail
      refine (Minus_any A3 (some ⟨b1, o1, none⟩) c3 d l set _ hr3 (hb.fr0 hf) hll).mono ?_
      intro e w2 h2
      obtain ⟨A5, c5, rfl, hf5, hown5⟩ := h2.n
      have hml := minus_le l set
      by_cases hz : (minus l set).length = 0
      · have hd : decide (0 < (minus l set).length) = false := by simp [hz]
        have hfx : decide (minus (needsOf L xn) set = []) = true := by rw [hno.out]; simpa using List.eq_nil_of_length_eq_zero hz
        have hal := all_take_succ (f := fun x => decide (minus (needsOf L x) set = [])) hx hall hfx
        clear hz hfx
        go_wp2
        go_roundw
        case rel => exact ⟨k + 1, by omega, by go_num, hal, hf.trans hf5⟩
        case measure => simp [intOf]; omega
      · have hd : decide (0 < (minus l set).length) = true := by rw [decide_eq_true_eq]; omega
        have hfx : decide (minus (needsOf L xn) set = []) = false := by
          rw [hno.out, decide_eq_false_iff_not]
          intro h
          rw [h] at hz
          exact hz rfl
        have hal := Lib.hid (all_false (f := fun x => decide (minus (needsOf L x) set = [])) hx hfx)
        clear hz hfx
        go_wp2
        go_ret
        exact ⟨ret_bool hal.out.symm, hf.trans hf5⟩
    · go_wp2
      go_ret
      refine ⟨ret_bool ?_, hf⟩
      have := hall.out
      rw [List.take_of_length_le (by omega)] at this
      exact this.symm
end Go.Proofs.Ytjpbmbonccenfaa
