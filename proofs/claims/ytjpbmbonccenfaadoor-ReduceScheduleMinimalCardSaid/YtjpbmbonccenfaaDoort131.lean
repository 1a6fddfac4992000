/- Texts of this seat, one behind the other: RClo. -/
import Derived.Test.YtjpbmbonccenfaaDoort122
import Derived.Test.YtjpbmbonccenfaaDoort123
/- Without and Close: of the program and of the reference, as plain functions. -/
namespace Go.Proofs.YtjpbmbonccenfaaDoor
open Go.RowKit
set_option linter.unusedVariables false

/-- Without. -/
noncomputable def withoutOf (L : List (List Int)) (set : List Int) (i : Int) : List Int × Int :=
  if checkNeeds L ≠ 0 then ([], checkNeeds L) else if isSet L.length set = false ∨ isClosedB L set = false then ([], 1) else if i ∉ set then ([], 7) else (wout L set i, 0)
theorem WithoutP_any (A B : Option Addr) (c d : Nat) (L : List (List Int)) (set : List Int) (i : Int) (w : World) (ha : Rss w A c L) (hb : Rd w (.int .i64) B d set) :
    Calls Tryd.prog 54 #[.slice A L.length c, .slice B set.length d, .int .i64 i] w (RetNums w (withoutOf L set i)) :=
  (Without_any A B c d L set i w ha hb).mono fun e w' h => by
    unfold withoutOf
    rcases h with ⟨h1, h2⟩ | ⟨h1, h2, h3⟩ | ⟨h1, h2, h3, h4, h5⟩ | ⟨h1, h2, h3, h4, gs, h5, h6, h7⟩
    · rw [if_pos h1]; exact h2
    · rw [if_neg (by simp [h1]), if_pos h2]; exact h3
    · rw [if_neg (by simp [h1]), if_neg (by simp [h2, h3]), if_pos h4]; exact h5
    · rw [if_neg (by simp [h1]), if_neg (by simp [h2, h3]), if_neg (by simpa using h4), ← wout_of h6]; exact h7
/-- Close. -/
noncomputable def closeOf (L : List (List Int)) (set : List Int) : List Int × Int :=
  if checkNeeds L ≠ 0 then ([], checkNeeds L) else if isSet L.length set = false then ([], 1) else (clo L set, 0)
theorem CloseP_any (A B : Option Addr) (c d : Nat) (L : List (List Int)) (set : List Int) (w : World) (ha : Rss w A c L) (hb : Rd w (.int .i64) B d set) :
    Calls Tryd.prog 51 #[.slice A L.length c, .slice B set.length d] w (RetNums w (closeOf L set)) :=
  (Close_any A B c d L set w ha hb).mono fun e w' h => by
    unfold closeOf
    rcases h with ⟨h1, h2⟩ | ⟨h1, h2, h3⟩ | ⟨h1, h2, bs, h3, h4, h5⟩
    · rw [if_pos h1]; exact h2
    · rw [if_neg (by simp [h1]), if_pos h2]; exact h3
    · rw [if_neg (by simp [h1]), if_neg (by simp [h2]), ← clo_of h3 h4]; exact h5

theorem refCheckNeedsV_any (A : Option Addr) (c : Nat) (L : List (List Int)) (w : World) (ha : Rss w A c L) :
    Calls Tryd.prog 40 #[.slice A L.length c] w (RetV w (.int .i64 (checkNeeds L))) := (refCheckNeeds_any A c L w ha).mono fun _ _ h => h.v

set_option maxRecDepth 20000 in
set_option maxHeartbeats 1600000 in
theorem refWithout_any (A B : Option Addr) (c d : Nat) (L : List (List Int)) (set : List Int) (i : Int) (w : World) (ha : Rss w A c L) (hb : Rd w (.int .i64) B d set) :
    Calls Tryd.prog 44 #[.slice A L.length c, .slice B set.length d, .int .i64 i] w (RetNums w (withoutOf L set i)) := by
  have hbd := ha.bound
  by_cases hk : checkNeeds L = 0
  · have hcb : (checkNeeds L != 0) = false := by simp [hk]
    obtain ⟨hn, hl⟩ := needs_facts hk
    have HL : Hid (∀ l ∈ L, l.length ≤ 1000000) := fun l h => by have := (set_inR (hl l h)).2; omega
    have HK := Lib.hid hk
    clear hk hl
    rcases hs : isSet L.length set with _ | _
    · have hR : Hid (withoutOf L set i = ([], 1)) := by show _ = _; unfold withoutOf; rw [if_neg (by simp [HK.out]), if_pos (.inl hs)]
      have HS := Lib.hid hs
      go_enter Tryd.func44, Tryd.ntmps44
      go_wp2_with fail
      refine (refCheckNeedsV_any A c L w ha).mono ?_
      rintro e w1 ⟨rfl, hf1⟩
      go_wp2_with fail
      refine (Set_any B d set L.length _ (hb.fr0 hf1)).mono ?_
      rw [HS.out]
      rintro e w2 ⟨rfl, n2, rfl⟩
      clear hs
      go_wp2
      go_ret2
      rw [hR.out]
      exact RetNums.err (by repeat (first | exact Fr.refl _ _ | assumption | apply Fr.drewN | apply Fr.drew | apply Fr.alloc | refine Fr.setCell ?_ (by simp) _)) rfl
    · have HS := Lib.hid hs
      have hIR : Hid (InR L.length set) := (set_inR hs).1
      clear hs
      rcases hc : isClosedB L set with _ | _
      · have hR : Hid (withoutOf L set i = ([], 1)) := by show _ = _; unfold withoutOf; rw [if_neg (by simp [HK.out]), if_pos (.inr hc)]
        have HC := Lib.hid hc
        clear hc
        go_enter Tryd.func44, Tryd.ntmps44
        go_wp2_with fail
        refine (refCheckNeedsV_any A c L w ha).mono ?_
        rintro e w1 ⟨rfl, hf1⟩
        go_wp2_with fail
        refine (Set_any B d set L.length _ (hb.fr0 hf1)).mono ?_
        rw [HS.out]
        rintro e w2 ⟨rfl, n2, rfl⟩
        go_wp2_with fail
        refine (refClosed_any A B c d L set _ (ha.fr0 (hf1.drewN _)) (hb.fr0 (hf1.drewN _)) hIR.out HL.out).mono ?_
        rw [HC.out]
        rintro e w3 ⟨rfl, hf3⟩
        go_wp2
        go_ret2
        rw [hR.out]
        exact RetNums.err (Fr.trans (hf1.drewN _) hf3) rfl
      · have HC := Lib.hid hc
        clear hc
        by_cases hi : i ∈ set
        · have hR : Hid (withoutOf L set i = (wout L set i, 0)) := by show _ = _; unfold withoutOf; rw [if_neg (by simp [HK.out]), if_neg (by simp [HS.out, HC.out]), if_neg (by simpa using hi)]
          have hd : decide (i ∈ set) = true := by simpa using hi
          clear hi
          go_enter Tryd.func44, Tryd.ntmps44
          go_wp2_with fail
          refine (refCheckNeedsV_any A c L w ha).mono ?_
          rintro e w1 ⟨rfl, hf1⟩
          go_wp2_with fail
          refine (Set_any B d set L.length _ (hb.fr0 hf1)).mono ?_
          rw [HS.out]
          rintro e w2 ⟨rfl, n2, rfl⟩
          go_wp2_with fail
          refine (refClosed_any A B c d L set _ (ha.fr0 (hf1.drewN _)) (hb.fr0 (hf1.drewN _)) hIR.out HL.out).mono ?_
          rw [HC.out]
          rintro e w3 ⟨rfl, hf3⟩
          have hF3 : Fr [] w w3 := Fr.trans (hf1.drewN _) hf3
          go_wp2_with fail
          refine (Has_any B d set i _ (hb.fr0 hF3)).mono ?_
          rw [hd]
          rintro e w4 ⟨rfl, n4, rfl⟩
          go_wp2_with fail
          refine (refwithout_any A B c d L set i _ (ha.fr0 (hF3.drewN _)) (hb.fr0 (hF3.drewN _)) HK.out HS.out HC.out).mono ?_
          rintro e w5 ⟨A5, c5, rfl, hf5, ho5⟩
          go_wp2
          go_ret2
          exact RetNums.ok (Fr.trans (hF3.drewN _) hf5) (own_base ho5 (hF3.drewN _).size) hR.out
        · have hR : Hid (withoutOf L set i = ([], 7)) := by show _ = _; unfold withoutOf; rw [if_neg (by simp [HK.out]), if_neg (by simp [HS.out, HC.out]), if_pos hi]
          have hd : decide (i ∈ set) = false := by simpa using hi
          clear hi
          go_enter Tryd.func44, Tryd.ntmps44
          go_wp2_with fail
          refine (refCheckNeedsV_any A c L w ha).mono ?_
          rintro e w1 ⟨rfl, hf1⟩
          go_wp2_with fail
          refine (Set_any B d set L.length _ (hb.fr0 hf1)).mono ?_
          rw [HS.out]
          rintro e w2 ⟨rfl, n2, rfl⟩
          go_wp2_with fail
          refine (refClosed_any A B c d L set _ (ha.fr0 (hf1.drewN _)) (hb.fr0 (hf1.drewN _)) hIR.out HL.out).mono ?_
          rw [HC.out]
          rintro e w3 ⟨rfl, hf3⟩
          have hF3 : Fr [] w w3 := Fr.trans (hf1.drewN _) hf3
          go_wp2_with fail
          refine (Has_any B d set i _ (hb.fr0 hF3)).mono ?_
          rw [hd]
          rintro e w4 ⟨rfl, n4, rfl⟩
          go_wp2
          go_ret2
          rw [hR.out]
          exact RetNums.err (hF3.drewN _) rfl
  · have hcb : (checkNeeds L != 0) = true := by simpa using hk
    have hR : Hid (withoutOf L set i = ([], checkNeeds L)) := by show _ = _; unfold withoutOf; rw [if_pos hk]
    clear hk
    go_enter Tryd.func44, Tryd.ntmps44
    go_wp2_with fail
    refine (refCheckNeedsV_any A c L w ha).mono ?_
    rintro e w1 ⟨rfl, hf1⟩
    go_wp2
    go_ret2
    rw [hR.out]
    exact RetNums.err hf1 rfl

theorem mem_clo {L : List (List Int)} {set : List Int} {x : Int} : x ∈ clo L set ↔ (0 ≤ x ∧ x < L.length) ∧ CloP L set x := by
  unfold clo
  rw [mem_picked]
  constructor
  · intro h
    have h1 := inB_lt h
    simp at h1
    obtain ⟨k, rfl⟩ : ∃ k : Nat, x = k := ⟨x.toNat, by omega⟩
    have hk : k < L.length := by omega
    refine ⟨h1, ?_⟩
    rw [inB_at (b := _) (List.getElem?_eq_getElem (by simpa using hk))] at h
    simpa using h
  · rintro ⟨h1, h⟩
    obtain ⟨k, rfl⟩ : ∃ k : Nat, x = k := ⟨x.toNat, by omega⟩
    have hk : k < L.length := by omega
    rw [inB_at (b := _) (List.getElem?_eq_getElem (by simpa using hk))]
    simpa using h
theorem clo_sorted (L : List (List Int)) (set : List Int) : (clo L set).Pairwise (· < ·) := picked_sorted _
/-- What holds all the time while a set is closed. -/
structure COk (L : List (List Int)) (set out : List Int) : Prop where
  ok : isSet L.length out = true
  base : ∀ x ∈ set, x ∈ out
  sub : ∀ x ∈ out, x ∈ clo L set
theorem COk.start {L : List (List Int)} {set : List Int} (h : isSet L.length set = true) : COk L set set :=
  ⟨h, fun _ hx => hx, fun x hx => mem_clo.2 ⟨(isSet_iff.1 h).1 x hx, fun D h1 _ => h1 x hx⟩⟩
theorem COk.add {L : List (List Int)} {set out : List Int} {x : Int} (h : COk L set out) (hk : checkNeeds L = 0) (hx : x ∈ out) : COk L set (plus out (needsOf L x)) := by
  have hr := (isSet_iff.1 h.ok).1 x hx
  have hn := needsOf_in hk hr
  refine ⟨plus_set h.ok hn, fun y hy => mem_plus.2 (.inl (h.base y hy)), fun y hy => ?_⟩
  rcases mem_plus.1 hy with hy | hy
  · exact h.sub y hy
  · exact mem_clo.2 ⟨(isSet_iff.1 hn).1 y hy, fun D h1 h2 => h2 x ((mem_clo.1 (h.sub x hx)).2 D h1 h2) y hy⟩
theorem COk.done {L : List (List Int)} {set out : List Int} (h : COk L set out) (hc : isClosedB L out = true) : out = clo L set :=
  sorted_ext (isSet_iff.1 h.ok).2 (clo_sorted L set) fun x => ⟨h.sub x, fun hx => by
    have := (mem_clo.1 hx).2 (fun y => decide (y ∈ out)) (fun y hy => by simpa using h.base y hy) (fun y hy z hz => by
      simp only [decide_eq_true_eq] at hy ⊢
      exact isClosed_iff.1 hc y hy z hz)
    simpa using this⟩
/-- A pass over all places has come to place k. -/
structure CPass (L : List (List Int)) (out cur : List Int) (k : Nat) : Prop where
  sub : ∀ x ∈ out, x ∈ cur
  got : ∀ x ∈ out, x < k → ∀ y ∈ needsOf L x, y ∈ cur
theorem CPass.start (L : List (List Int)) (out : List Int) {n : Int} (h : isSet n out = true) : CPass L out out 0 :=
  ⟨fun _ hx => hx, fun x hx hk => by have := ((isSet_iff.1 h).1 x hx).1; omega⟩
theorem CPass.add {L : List (List Int)} {out cur : List Int} {k : Nat} (h : CPass L out cur k) : CPass L out (plus cur (needsOf L k)) (k + 1) :=
  ⟨fun x hx => mem_plus.2 (.inl (h.sub x hx)), fun x hx hk y hy => by
    by_cases e : x = k
    · subst e; exact mem_plus.2 (.inr hy)
    · exact mem_plus.2 (.inl (h.got x hx (by omega) y hy))⟩
theorem CPass.skip {L : List (List Int)} {out cur : List Int} {k : Nat} (h : CPass L out cur k) (hk : (k : Int) ∉ cur) : CPass L out cur (k + 1) :=
  ⟨h.sub, fun x hx hx2 y hy => by
    by_cases e : x = k
    · subst e; exact absurd (h.sub _ hx) hk
    · exact h.got x hx (by omega) y hy⟩
theorem CPass.lt {L : List (List Int)} {out cur : List Int} {n : Int} (h : CPass L out cur L.length) (ho : isSet L.length out = true) (hn : isClosedB L out = false) : out.length < cur.length := by
  unfold isClosedB at hn
  obtain ⟨x, hx, hx2⟩ := List.all_eq_false.1 hn
  simp only [decide_eq_true_eq] at hx2
  obtain ⟨y, hy⟩ := List.exists_mem_of_ne_nil _ hx2
  obtain ⟨h1, h2⟩ := mem_minus.1 hy
  have hxr := (isSet_iff.1 ho).1 x hx
  have := nodup_sub_len (xs := y :: out) (ys := cur) (List.nodup_cons.2 ⟨h2, sorted_nodup (isSet_iff.1 ho).2⟩) (fun z hz => by
    rcases List.mem_cons.1 hz with rfl | hz
    · exact h.got x hx hxr.2 _ h1
    · exact h.sub z hz)
  simp at this
  omega
def RCInv (w : World) (L : List (List Int)) (set : List Int) (t : Nat) (v : Value) (wr : World) : Prop :=
  ∃ out, GathN w 3 out v wr ∧ Hid (COk L set out) ∧ L.length < t + out.length

set_option maxRecDepth 20000 in
set_option maxHeartbeats 1600000 in
theorem refClose_any (A B : Option Addr) (c d : Nat) (L : List (List Int)) (set : List Int) (w : World) (ha : Rss w A c L) (hb : Rd w (.int .i64) B d set) :
    Calls Tryd.prog 52 #[.slice A L.length c, .slice B set.length d] w (RetNums w (closeOf L set)) := by
  have hbd := ha.bound
  by_cases hk : checkNeeds L = 0
  · have hcb : (checkNeeds L != 0) = false := by simp [hk]
    obtain ⟨hn, hl⟩ := needs_facts hk
    have HLN : Hid (∀ l ∈ L, l.length ≤ 1000000) := fun l h => by have := (set_inR (hl l h)).2; omega
    have HLL : Hid (∀ l ∈ L, l.length ≤ 256) := fun l h => by have := (set_inR (hl l h)).2; omega
    have HK := Lib.hid hk
    clear hk hl
    rcases hs : isSet L.length set with _ | _
    · have hR : Hid (closeOf L set = ([], 1)) := by show _ = _; unfold closeOf; rw [if_neg (by simp [HK.out]), if_pos hs]
      have HS := Lib.hid hs
      clear hs
      go_enter Tryd.func52, Tryd.ntmps52
      go_wp2_with fail
      refine (refCheckNeedsV_any A c L w ha).mono ?_
      rintro e w1 ⟨rfl, hf1⟩
      go_wp2_with fail
      refine (Set_any B d set L.length _ (hb.fr0 hf1)).mono ?_
      rw [HS.out]
      rintro e w2 ⟨rfl, n2, rfl⟩
      go_wp2
      go_ret2
      rw [hR.out]
      exact RetNums.err (hf1.drewN _) rfl
    · have hR : Hid (closeOf L set = (clo L set, 0)) := by show _ = _; unfold closeOf; rw [if_neg (by simp [HK.out]), if_neg (by simp [hs])]
      have HS := Lib.hid hs
      have hsl := (set_inR hs).2
      clear hs
      go_enter Tryd.func52, Tryd.ntmps52
      go_wp2_with fail
      refine (refCheckNeedsV_any A c L w ha).mono ?_
      rintro e w1 ⟨rfl, hf1⟩
      go_wp2_with fail
      refine (Set_any B d set L.length _ (hb.fr0 hf1)).mono ?_
      rw [HS.out]
      rintro e w2 ⟨rfl, n2, rfl⟩
      have hF2 : Fr [] w (w1.drewN n2) := hf1.drewN _
      clear hf1
      generalize w1.drewN n2 = w2 at *
      go_wp2_with (at_builtin; refine wpList_append_rd rfl (.tmp 19) (.tmp 20) _ rfl elemInts (.slice (some ⟨w2.heap.size, 0, none⟩) 0 0) [] rfl (own_empty w2 _ _ rfl) B d set (.int .i64) rfl ((hb.fr0 hF2).alloc _) one_i64 (by omega) (by simp) ?_; intro A3 c3 w3 ho3 hg3 hat3)
      have hF3 : Fr [] w w3 := (hF2.alloc _).app (own_empty w2 _ _ rfl) hF2.size hg3
      have hI : RCInv w L set (L.length + 1) (.slice A3 (0 + set.length) c3) w3 := by
        rw [Nat.zero_add] at ho3 ⊢
        exact ⟨set, ⟨A3, c3, rfl, own_base (by simpa using ho3) hF2.size, hF3⟩, COk.start HS.out, by omega⟩
      clear ho3 hg3 hat3 hF3 hF2
      simp only [Nat.zero_add] at hI ⊢
      go_wp2_with fail
      go_loopg [7] (L.length + 1) (RCInv w L set)
      case atStart => exact hI
      case round =>
        clear hI
        obtain ⟨out, ⟨A4, c4, rfl, ho4, hf4⟩, hok, hlt⟩ := hrel
        obtain ⟨hor, hol⟩ := set_inR hok.out.ok
        obtain ⟨t, rfl⟩ : ∃ t, gk = t + 1 := ⟨gk - 1, by omega⟩
        have HOR := Lib.hid hor
        have hr4 : Rd wr (.int .i64) A4 c4 out := (Rd.of_own ho4).2
        clear hor
        rcases hcl : isClosedB L out with _ | _
        · have HCL := Lib.hid hcl
          go_wp2_with fail
          refine (refClosed_any A A4 c c4 L out _ (ha.fr0 hf4) hr4 HOR.out HLN.out).mono ?_
          rw [hcl]
          rintro e w5 ⟨rfl, hf5⟩
          clear hcl
          have hI2 : ∃ cur, GathN w 3 cur (.slice A4 out.length c4) w5 ∧ Hid (COk L set cur) ∧ Hid (CPass L out cur 0) := ⟨out, ⟨A4, c4, rfl, own_fr ho4 hf5 (by simp), hf4.trans hf5⟩, hok, CPass.start L out hok.out.ok⟩
          clear hf5 ho4 hr4 hf4
          go_wp2_with fail
          go_loopw [7, 8] (fun v j wr => ∃ (k : Nat) (cur : List Int), k ≤ L.length ∧ j = .int .i64 k ∧ GathN w 3 cur v wr ∧ Hid (COk L set cur) ∧ Hid (CPass L out cur k)) (fun _ j _ => L.length - (intOf j).toNat)
          case atStart => obtain ⟨cur, h1, h2, h3⟩ := hI2; exact ⟨0, cur, Nat.zero_le _, rfl, h1, h2, h3⟩
          case round =>
            clear hI2
            obtain ⟨k, cur, hkl, rfl, ⟨A6, c6, rfl, ho6, hf6⟩, hok6, hp6⟩ := hrel
            have hcl6 := (set_inR hok6.out.ok).2
            have hr6 : Rd wr (.int .i64) A6 c6 cur := (Rd.of_own ho6).2
            by_cases hlt2 : k < L.length
            · obtain ⟨b2, o2, l, A3, c3, rfl, hl2, hc2, hr5⟩ := (ha.fr0 hf6).at_ hlt2
              have hno : Hid (needsOf L k = l) := by show _ = _; unfold needsOf; simp [hl2.out]
              have hll := HLL.out l (List.mem_of_getElem? hl2.out)
              by_cases hm : (k : Int) ∈ cur
              · have hd : decide ((k : Int) ∈ cur) = true := by simpa using hm
                have hok7 := Lib.hid (hok6.out.add HK.out hm)
                have hp7 := Lib.hid hp6.out.add
                rw [hno.out] at hok7 hp7
                clear hm
                go_wp2_with fail
                refine (Has_any A6 c6 cur k _ hr6).mono ?_
                rw [hd]
                rintro e w7 ⟨rfl, n7, rfl⟩
                go_wp2_with fail
                refine (Plus_any A6 A3 c6 c3 cur l _ (hr6.drewN _) (hr5.drewN _) (by omega) (by omega)).mono ?_
                rintro e w8 ⟨A8, c8, rfl, hf8, ho8⟩
                have hF8 : Fr [] w w8 := Fr.trans (hf6.drewN _) hf8
                have hz := hf6.size
                go_wp2_with fail
                go_roundw
                case rel => exact ⟨k + 1, plus cur l, by omega, by go_num, ⟨A8, c8, rfl, own_base ho8 (by simpa using hz), hF8⟩, hok7, hp7⟩
                case measure => simp [intOf]; omega
              · have hd : decide ((k : Int) ∈ cur) = false := by simpa using hm
                have hp7 := Lib.hid (hp6.out.skip hm)
                clear hm
                go_wp2_with fail
                refine (Has_any A6 c6 cur k _ hr6).mono ?_
                rw [hd]
                rintro e w7 ⟨rfl, n7, rfl⟩
                go_wp2_with fail
                go_roundw
                case rel => exact ⟨k + 1, cur, by omega, by go_num, ⟨A6, c6, rfl, own_drewN ho6 _, hf6.drewN _⟩, hok6, hp7⟩
                case measure => simp [intOf]; omega
            · obtain rfl : k = L.length := by omega
              have hgt := CPass.lt (n := 0) hp6.out hok.out.ok HCL.out
              go_wp2
              go_roundg t
              case measure => omega
              case rel => exact ⟨cur, ⟨A6, c6, rfl, ho6, hf6⟩, hok6, by omega⟩
        · have HD := Lib.hid (hok.out.done hcl)
          go_wp2_with fail
          refine (refClosed_any A A4 c c4 L out _ (ha.fr0 hf4) hr4 HOR.out HLN.out).mono ?_
          rw [hcl]
          rintro e w5 ⟨rfl, hf5⟩
          clear hcl
          go_wp2
          go_ret2
          exact RetNums.ok (hf4.trans hf5) (own_fr ho4 hf5 (by simp)) (by rw [hR.out, HD.out])
  · have hcb : (checkNeeds L != 0) = true := by simpa using hk
    have hR : Hid (closeOf L set = ([], checkNeeds L)) := by show _ = _; unfold closeOf; rw [if_pos hk]
    clear hk
    go_enter Tryd.func52, Tryd.ntmps52
    go_wp2_with fail
    refine (refCheckNeedsV_any A c L w ha).mono ?_
    rintro e w1 ⟨rfl, hf1⟩
    go_wp2
    go_ret2
    rw [hR.out]
    exact RetNums.err hf1 rfl
end Go.Proofs.YtjpbmbonccenfaaDoor
