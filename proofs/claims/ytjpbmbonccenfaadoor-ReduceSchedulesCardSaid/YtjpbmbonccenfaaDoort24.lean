/- Texts of this seat, one behind the other: Pick, Needs. -/
import Derived.Test.YtjpbmbonccenfaaDoort23
import Derived.WalkSmall
import Derived.Deep.LoopGhost
/- Slices of picks: two cells an element. -/
namespace Go.Proofs.YtjpbmbonccenfaaDoor
open Go.RowKit
set_option linter.unusedVariables false

/-- A pick: a thread, a count. -/
abbrev Pk := Int × Int
/-- The cells of picks. -/
def flat (ps : List Pk) : List Value := ps.flatMap fun p => [.int .i64 p.1, .int .i64 p.2]
theorem flat_length (ps : List Pk) : (flat ps).length = ps.length * 2 := by
  induction ps with
  | nil => rfl
  | cons p ps ih => simp only [flat, List.flatMap_cons, List.length_append, List.length_cons, List.length_nil] at ih ⊢; rw [ih]; omega
theorem flat_snoc (ps : List Pk) (p : Pk) : flat (ps ++ [p]) = flat ps ++ [.int .i64 p.1, .int .i64 p.2] := by simp [flat]
theorem flat_at0 : ∀ (ps : List Pk) (k : Nat), (flat ps)[k * 2]? = ps[k]?.map fun p => .int .i64 p.1
  | [], k => by simp [flat]
  | p :: ps, 0 => by simp [flat]
  | p :: ps, k + 1 => by
    have := flat_at0 ps k
    rw [show (k + 1) * 2 = k * 2 + 2 by omega]
    simpa [flat] using this
theorem flat_at1 : ∀ (ps : List Pk) (k : Nat), (flat ps)[k * 2 + 1]? = ps[k]?.map fun p => .int .i64 p.2
  | [], k => by simp [flat]
  | p :: ps, 0 => by simp [flat]
  | p :: ps, k + 1 => by
    have := flat_at1 ps k
    rw [show (k + 1) * 2 + 1 = k * 2 + 1 + 2 by omega]
    simpa [flat] using this
theorem flat_set : ∀ (ps : List Pk) (k : Nat) (q : Pk) (v : Int), ps[k]? = some q → (flat ps).set (k * 2 + 1) (.int .i64 v) = flat (ps.set k (q.1, v))
  | [], k, q, v, h => by simp at h
  | p :: ps, 0, q, v, h => by simp at h; subst h; simp [flat]
  | p :: ps, k + 1, q, v, h => by
    have := flat_set ps k q v (by simpa using h)
    rw [show (k + 1) * 2 + 1 = k * 2 + 1 + 2 by omega]
    simpa [flat] using this

/-- A slice that reads as picks. -/
structure Rp (w : World) (A : Option Addr) (c : Nat) (ps : List Pk) : Prop where
  le : ps.length ≤ c
  cap : c ≤ maxLen
  at0 : 0 < ps.length → ∃ b off, A = some ⟨b, off, none⟩ ∧ ∀ k p, ps[k]? = some p → w.cell? ⟨b, off + k * 2, none⟩ = some (.int .i64 p.1) ∧ w.cell? ⟨b, off + k * 2 + 1, none⟩ = some (.int .i64 p.2)

section
variable {w w' : World} {A : Option Addr} {c : Nat} {ps : List Pk} {S : List Nat}
theorem Rp.at_ (h : Rp w A c ps) {k : Nat} (hk : k < ps.length) : ∃ b off x y, A = some ⟨b, off, none⟩ ∧ Hid (ps[k]? = some (x, y)) ∧ w.cell? ⟨b, off + k * 2, none⟩ = some (.int .i64 x) ∧ w.cell? ⟨b, off + k * 2 + 1, none⟩ = some (.int .i64 y) := by
  obtain ⟨b, off, hA, hc⟩ := h.at0 (by omega)
  have := hc k ps[k] (List.getElem?_eq_getElem hk)
  exact ⟨b, off, ps[k].1, ps[k].2, hA, List.getElem?_eq_getElem hk, this.1, this.2⟩
theorem Rp.bound (h : Rp w A c ps) : ps.length ≤ 9223372036854775807 := by
  have h1 := h.le
  have h2 := h.cap
  unfold maxLen at h2
  omega
theorem Rp.nil_ (w : World) : Rp w none 0 [] := ⟨Nat.le_refl _, by unfold maxLen; omega, fun h => by simp at h⟩
theorem Rp.fr (h : Rp w A c ps) (hf : Fr S w w') (hn : 0 < ps.length → ∀ a, A = some a → a.block ∉ S) : Rp w' A c ps :=
  ⟨h.le, h.cap, fun h0 => by
    obtain ⟨b, off, hA, hc⟩ := h.at0 h0
    exact ⟨b, off, hA, fun k p hp => ⟨hf.cell (hc k p hp).1 (hn h0 ⟨b, off, none⟩ hA), hf.cell (hc k p hp).2 (hn h0 ⟨b, off, none⟩ hA)⟩⟩⟩
theorem Rp.fr0 (h : Rp w A c ps) (hf : Fr [] w w') : Rp w' A c ps := h.fr hf (by simp)
theorem Rp.alloc (h : Rp w A c ps) (o : Obj) : Rp (w.alloc o) A c ps := h.fr0 ((Fr.refl _ _).alloc o)
theorem Rp.drewN (h : Rp w A c ps) (n : Nat) : Rp (w.drewN n) A c ps := ⟨h.le, h.cap, h.at0⟩
theorem Rp.of_own {base n : Nat} {e : TypeId} (h : w.ownsRow base e 2 (.slice A n c) n (flat ps)) : n = ps.length ∧ Rp w A c ps := by
  have hl : n = ps.length := by have := h.1; rw [flat_length] at this; omega
  subst hl
  refine ⟨rfl, ?_⟩
  rcases h.2 with ⟨he, h0⟩ | ⟨g, cap, cur, he, hb, hh, hnc, hcm, hsz, htk⟩
  · injection he with e1 e2 e3
    subst e1 e3
    exact ⟨by omega, by unfold maxLen; omega, fun h1 => by omega⟩
  · injection he with e1 e2 e3
    subst e1 e3
    exact ⟨hnc, hcm, fun _ => ⟨g, 0, rfl, fun k p hp => by
      have hk : k < ps.length := (List.getElem?_eq_some_iff.1 hp).1
      have a0 := h.cellAt (k * 2) (by omega)
      have a1 := h.cellAt (k * 2 + 1) (by omega)
      rw [flat_at0, hp] at a0
      rw [flat_at1, hp] at a1
      rw [Nat.zero_add]
      exact ⟨a0, a1⟩⟩⟩
end

theorem elemPicks : Elem Tryd.prog 47 115 (.agg #[.int .i64 0, .int .i64 0]) 2 16 := ⟨Tryd.underlying47, by kernel_rfl, rfl, by omega, by omega⟩

/-- append(s, p) at the walk: one pick onto a slice of the call's own. -/
theorem wpList_append_pick {w : World} {ops : Array Oper} {rest : List Oper} {o : Oper} {a : Act} {Q : Exit → Act → World → Prop} (hgd : o.guard = none) (s x : Operand)
    (ho : o.op = .call { callee := .builtin .append, args := #[s, x], argTypes := #[47, 47] })
    {base n : Nat} (v : Value) (xs : List Value) (hs : a.eval s = v) (hown : w.ownsRow base 115 2 v n xs)
    (b : Nat) (p1 p2 : Int) (hx : a.eval x = .slice (some ⟨b, 0, none⟩) 1 1) (h1 : w.cell? ⟨b, 0, none⟩ = some (.int .i64 p1)) (h2 : w.cell? ⟨b, 1, none⟩ = some (.int .i64 p2))
    (hb : (n + 1) * 16 ≤ 140737488355328) (hbase : base ≤ w.heap.size)
    (h : ∀ A' c' w', w'.ownsRow base 115 2 (.slice A' (n + 1) c') (n + 1) (xs ++ [.int .i64 p1, .int .i64 p2]) → w.grownBy w' v.ownBlock → wpList Tryd.prog ops Q rest (a.put o.dst (.slice A' (n + 1) c')) w') :
    wpList Tryd.prog ops Q (o :: rest) a w := by
  obtain ⟨i, hi, hz, hsz, hby⟩ := info_parts elemPicks.inf
  refine wpList_append_own_at w hgd s x _ ho base _ i _ 2 16 elemPicks.und hi hz hsz hby rfl (by omega) v n xs hs hown ⟨b, 0, none⟩ 1 1 [.int .i64 p1, .int .i64 p2] hx rfl (fun j u hj => ?_) (fun u hu => ?_) (by unfold maxLen; omega) (by omega) hbase (fun v' w' hown' hg hnil hat => ?_)
  · rw [Addr.add_lit, Nat.zero_add]
    match j, hj with
    | 0, hj => simp at hj; subst hj; exact h1
    | 1, hj => simp at hj; subst hj; exact h2
  · simp at hu
    rcases hu with rfl | rfl <;> rfl
  · obtain ⟨A', c', rfl⟩ := own_form hown'
    exact h A' c' w' hown' hg

/-- The call returns a slice of picks of its own. -/
def RetPks (w : World) (ps : List Pk) (e : Ending) (w' : World) : Prop :=
  ∃ A c, e = .returned (.slice A ps.length c) ∧ Fr [] w w' ∧ w'.ownsRow w.heap.size 115 2 (.slice A ps.length c) ps.length (flat ps)
end Go.Proofs.YtjpbmbonccenfaaDoor

/- Slices of slices of numbers; CheckNeeds. -/
namespace Go.Proofs.YtjpbmbonccenfaaDoor
open Go.RowKit
set_option linter.unusedVariables false

/-- A slice that reads as a list of lists of numbers. -/
structure Rss (w : World) (A : Option Addr) (c : Nat) (L : List (List Int)) : Prop where
  le : L.length ≤ c
  cap : c ≤ maxLen
  at0 : 0 < L.length → ∃ b off, A = some ⟨b, off, none⟩ ∧ ∀ k l, L[k]? = some l → ∃ A' c', w.cell? ⟨b, off + k, none⟩ = some (.slice A' l.length c') ∧ Rd w (.int .i64) A' c' l
section
variable {w w' : World} {A : Option Addr} {c : Nat} {L : List (List Int)} {S : List Nat}
theorem Rss.at_ (h : Rss w A c L) {k : Nat} (hk : k < L.length) : ∃ b off l A' c', A = some ⟨b, off, none⟩ ∧ Hid (L[k]? = some l) ∧ w.cell? ⟨b, off + k, none⟩ = some (.slice A' l.length c') ∧ Rd w (.int .i64) A' c' l := by
  obtain ⟨b, off, hA, hc⟩ := h.at0 (by omega)
  obtain ⟨A', c', h1, h2⟩ := hc k L[k] (List.getElem?_eq_getElem hk)
  exact ⟨b, off, L[k], A', c', hA, List.getElem?_eq_getElem hk, h1, h2⟩
theorem Rss.bound (h : Rss w A c L) : L.length ≤ 9223372036854775807 := by
  have h1 := h.le
  have h2 := h.cap
  unfold maxLen at h2
  omega
theorem Rss.fr0 (h : Rss w A c L) (hf : Fr [] w w') : Rss w' A c L :=
  ⟨h.le, h.cap, fun h0 => by
    obtain ⟨b, off, hA, hc⟩ := h.at0 h0
    refine ⟨b, off, hA, fun k l hl => ?_⟩
    obtain ⟨A', c', h1, h2⟩ := hc k l hl
    exact ⟨A', c', hf.cell h1 (by simp), h2.fr0 hf⟩⟩
theorem Rss.drewN (h : Rss w A c L) (n : Nat) : Rss (w.drewN n) A c L := h.fr0 ((Fr.refl _ _).drewN n)
end

/-- The first error of needs, from change i on; n: how many changes there are. -/
def ckN (n : Int) : Int → List (List Int) → Int
  | _, [] => 0
  | i, l :: ls => if isSet n l = false ∨ i ∈ l then 1 else ckN n (i + 1) ls
/-- CheckNeeds. -/
def checkNeeds (L : List (List Int)) : Int := if 256 < L.length then 3 else ckN L.length 0 L
theorem ckN_at {n : Int} {L : List (List Int)} {k : Nat} {l : List Int} (h : Hid (L[k]? = some l)) (i : Int) : ckN n i (L.drop k) = if isSet n l = false ∨ i ∈ l then 1 else ckN n (i + 1) (L.drop (k + 1)) := by
  have hk : k < L.length := (List.getElem?_eq_some_iff.1 h.out).1
  have he : L[k] = l := (List.getElem?_eq_some_iff.1 h.out).2
  rw [List.drop_eq_getElem_cons hk, he, ckN]

set_option maxHeartbeats 1600000 in
theorem CheckNeeds_any (A : Option Addr) (c : Nat) (L : List (List Int)) (w : World) (ha : Rss w A c L) :
    Calls Tryd.prog 53 #[.slice A L.length c] w (RetQ w (.int .i64 (checkNeeds L))) := by
  have hbd := ha.bound
  by_cases h256 : 256 < L.length
  · have hr := Lib.hid (show checkNeeds L = 3 by simp [checkNeeds, h256])
    go_enter Tryd.func53, Tryd.ntmps53
    go_wp2
    go_ret
    exact ⟨ret_int hr.out.symm, 0, rfl⟩
  · have hr := Lib.hid (show checkNeeds L = ckN L.length 0 L by simp [checkNeeds, h256])
    have hle : L.length ≤ 256 := by omega
    go_enter Tryd.func53, Tryd.ntmps53
    go_wp2
    go_loopw [10] (fun i wr => ∃ k : Nat, k ≤ L.length ∧ i = .int .i64 k ∧ Hid (checkNeeds L = ckN L.length k (L.drop k)) ∧ ∃ m, wr = w.drewN m) (fun i _ => L.length - (intOf i).toNat)
    case atStart => exact ⟨0, Nat.zero_le _, rfl, by show _ = _; rw [hr.out]; simp, 0, rfl⟩
    case round =>
      clear hr
      obtain ⟨k, hk, rfl, HE, m, rfl⟩ := hrel
      by_cases hlt : k < L.length
      · obtain ⟨b1, o1, l, A1, c1, rfl, hx, hc1, hr1⟩ := ha.at_ hlt
        have hst := ckN_at hx (n := L.length) (i := k)
        by_cases hs : isSet (L.length : Int) l = true
        · by_cases hm : (k : Int) ∈ l
          · have hd : decide ((k : Int) ∈ l) = true := by simpa using hm
            rw [if_pos (.inr hm)] at hst
            have HF : Hid (checkNeeds L = 1) := HE.out.trans hst
            clear hst hm
            go_wp2_with (first | (go_at_call 63; refine (rising_any A1 c1 l L.length _ (hr1.drewN _)).mono ?_; rintro e w' ⟨rfl, n1, rfl⟩) | (go_at_call 102; refine (has_any A1 c1 l k _ (hr1.drewN _)).mono ?_; rintro e w' ⟨rfl, n2, rfl⟩))
            go_ret
            exact ⟨ret_int HF.out.symm, _, by first | rfl | exact World.drewN_drewN ..⟩
          · have hd : decide ((k : Int) ∈ l) = false := by simpa using hm
            rw [if_neg (by simp [hs, hm])] at hst
            have HF : Hid (checkNeeds L = ckN L.length (k + 1) (L.drop (k + 1))) := HE.out.trans hst
            clear hst hm
            go_wp2_with (first | (go_at_call 63; refine (rising_any A1 c1 l L.length _ (hr1.drewN _)).mono ?_; rintro e w' ⟨rfl, n1, rfl⟩) | (go_at_call 102; refine (has_any A1 c1 l k _ (hr1.drewN _)).mono ?_; rintro e w' ⟨rfl, n2, rfl⟩))
            go_roundw
            case rel => exact ⟨k + 1, by omega, by go_num, HF, _, by first | rfl | exact World.drewN_drewN ..⟩
            case measure => simp [intOf]; omega
        · have hs' : isSet (L.length : Int) l = false := by simpa using hs
          rw [if_pos (.inl hs')] at hst
          have HF : Hid (checkNeeds L = 1) := HE.out.trans hst
          clear hst hs
          go_wp2_with (first | (go_at_call 63; refine (rising_any A1 c1 l L.length _ (hr1.drewN _)).mono ?_; rintro e w' ⟨rfl, n1, rfl⟩) | (go_at_call 102; refine (has_any A1 c1 l k _ (hr1.drewN _)).mono ?_; rintro e w' ⟨rfl, n2, rfl⟩))
          go_ret
          exact ⟨ret_int HF.out.symm, _, by first | rfl | exact World.drewN_drewN ..⟩
      · have HF : Hid (checkNeeds L = 0) := by
          show _ = _
          rw [HE.out, List.drop_of_length_le (by omega), ckN]
        go_wp2
        go_ret
        exact ⟨ret_int HF.out.symm, _, rfl⟩

/-- The numbers that are set. -/
def pickedOf (bs : List Bool) : List Int := ((List.range bs.length).filter fun k => bs.getD k false).map fun (k : Nat) => (k : Int)
def pickUpto (bs : List Bool) (k : Nat) : List Int := ((List.range k).filter fun k => bs.getD k false).map fun (k : Nat) => (k : Int)
theorem pick_yes {bs : List Bool} {k : Nat} (h : Hid (bs[k]? = some true)) : pickUpto bs (k + 1) = pickUpto bs k ++ [(k : Int)] := by
  simp [pickUpto, List.range_succ, List.filter_append, h.out]
theorem pick_no {bs : List Bool} {k : Nat} (h : Hid (bs[k]? = some false)) : pickUpto bs (k + 1) = pickUpto bs k := by
  simp [pickUpto, List.range_succ, List.filter_append, h.out]
theorem pick_le (bs : List Bool) (k : Nat) : (pickUpto bs k).length ≤ k := by
  unfold pickUpto
  rw [List.length_map]
  exact Nat.le_trans (List.length_filter_le _ _) (by simp)

set_option maxHeartbeats 1600000 in
theorem picked_any (A : Option Addr) (c : Nat) (bs : List Bool) (w : World) (ha : Rd w .bool A c bs) (hlen : bs.length ≤ 1000000) :
    Calls Tryd.prog 114 #[.slice A bs.length c] w (RetN w 3 (pickedOf bs)) := by
  go_enter Tryd.func114, Tryd.ntmps114
  go_wp2
  go_loop [3, 11] (fun n i => ∃ (k m : Nat), k ≤ bs.length ∧ m ≤ k ∧ i = .int .i64 k ∧ n = .int .i64 m) (fun _ i => bs.length - (intOf i).toNat)
  case atStart => exact ⟨0, 0, Nat.zero_le _, Nat.le_refl _, rfl, rfl⟩
  case round =>
    obtain ⟨k, m, hk, hm, rfl, rfl⟩ := hrel
    by_cases hlt : k < bs.length
    · obtain ⟨b1, o1, x, rfl, hx, hc1⟩ := ha.at_ hlt
      cases x
      · go_wp2
        go_round
        case rel => exact ⟨k + 1, m, by omega, by omega, by go_num, rfl⟩
        case measure => simp [intOf]; omega
      · go_wp2
        go_round
        case rel => exact ⟨k + 1, m + 1, by omega, by omega, by go_num, by go_num⟩
        case measure => simp [intOf]; omega
    · go_wp2_with (at_make; refine wpList_make0 rfl _ _ _ rfl elemInts m rfl rfl (by omega) ?_; intro w0 hown0 hg0)
      go_loopw [6, 23] (fun v i wr => ∃ k : Nat, k ≤ bs.length ∧ i = .int .i64 k ∧ GathN w 3 (pickUpto bs k) v wr) (fun _ i _ => bs.length - (intOf i).toNat)
      case atStart => exact ⟨0, Nat.zero_le _, rfl, GathN.made (Fr.refl _ _) hown0 hg0 (by simp [pickUpto])⟩
      case round =>
        clear hown0 hg0
        obtain ⟨k, hk, rfl, A1, c1, rfl, hown, hf⟩ := hrel
        have hpl := pick_le bs k
        by_cases hlt : k < bs.length
        · obtain ⟨b1, o1, x, rfl, hx, hc1⟩ := (ha.fr0 hf).at_ hlt
          cases x
          · go_wp2
            go_roundw
            case rel => exact ⟨k + 1, by omega, by go_num, GathN.same hf hown (by rw [pick_no hx])⟩
            case measure => simp [intOf]; omega
          · go_wp2_with (at_builtin; refine wpList_append_rd rfl (.tmp 29) (.tmp 31) _ rfl elemInts (.slice A1 (pickUpto bs k).length c1) _ rfl (hown.alloc _) _ _ [(k : Int)] (.int .i64) rfl (Rd.one _ _ _ _) one_i64 (by simp; omega) (by simp; have := hf.size; omega) ?_; intro A2 c2 w2 hown2 hg2 hat2)
            go_roundw
            case rel => exact ⟨k + 1, by omega, by go_num, GathN.snoc (hf.alloc _) (hown.alloc _) hg2 hown2 (by rw [pick_yes hx]; simp)⟩
            case measure => simp [intOf]; omega
        · go_wp2
          go_ret
          exact GathN.ret hf hown (by rw [show k = bs.length by omega]; rfl)
end Go.Proofs.YtjpbmbonccenfaaDoor
