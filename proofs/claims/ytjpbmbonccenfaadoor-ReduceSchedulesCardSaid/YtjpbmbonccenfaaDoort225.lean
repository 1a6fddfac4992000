/- Texts of this seat, one behind the other: TrP, SchS. -/
import Derived.Test.YtjpbmbonccenfaaDoort221
import Derived.Test.YtjpbmbonccenfaaDoort224
/- What a search over picks asks of an oracle; what Schedule answers. -/
namespace Go.Proofs.YtjpbmbonccenfaaDoor
open Go.RowKit
set_option linter.unusedVariables false

theorem lookup_saidP (o : List Pk → Int) (q : List Pk) : ∀ ks : List (List Pk), @List.lookup (List Pk) Int instBEqOfDecidableEq q (ks.map fun k => (k, o k)) = if q ∈ ks then some (o q) else none
  | [] => rfl
  | k :: ks => by
    show (match @BEq.beq (List Pk) instBEqOfDecidableEq q k with | true => some (o k) | false => @List.lookup (List Pk) Int instBEqOfDecidableEq q (ks.map fun k => (k, o k))) = _
    by_cases h : q = k
    · subst h
      have : (@BEq.beq (List Pk) instBEqOfDecidableEq q q) = true := decide_eq_true rfl
      rw [this]; simp
    · have : (@BEq.beq (List Pk) instBEqOfDecidableEq q k) = false := decide_eq_false h
      rw [this]
      show @List.lookup (List Pk) Int instBEqOfDecidableEq q (ks.map fun k => (k, o k)) = _
      rw [lookup_saidP o q ks]
      simp [h]

/-- What is known of sets that an oracle was asked. -/
def saidOfP (o : List Pk → Int) (ks : List (List Pk)) : KnP := ks.map fun k => (k, o k)
section
variable {α : Type}
theorem go_stopP (o : List Pk → Int) (ho : ∀ q, told (o q) = o q) (q0 : List Pk) (rest : List (List Pk)) :
    ∀ (t : Tr (List Pk) Int α) (ks more : List (List Pk)), t.asks o ks = more ++ q0 :: rest → t.go (askSP ((ks ++ more).map o)) (ks.length, saidOfP o ks) = .inl q0
  | .ret _, ks, more, h => by simp [Tr.asks] at h
  | .ask q k, ks, more, h => by
    rw [Tr.asks] at h
    by_cases h0 : q ∈ ks
    · rw [if_pos h0] at h
      rw [Tr.go_some (v := o q) (s' := (ks.length, saidOfP o ks)) (askS_someP (askV_knownP (by unfold saidOfP; rw [lookup_saidP, if_pos h0])))]
      exact go_stopP o ho q0 rest _ ks more h
    · rw [if_neg h0] at h
      have hl : @List.lookup (List Pk) Int instBEqOfDecidableEq q (saidOfP o ks) = none := by unfold saidOfP; rw [lookup_saidP, if_neg h0]
      rcases more with _ | ⟨m, more⟩
      · simp only [List.nil_append, List.cons.injEq] at h
        rw [← h.1]
        exact Tr.go_none (askS_noneP (askV_askP hl (by simp)))
      · simp only [List.cons_append, List.cons.injEq] at h
        obtain ⟨rfl, h⟩ := h
        have hg : askVP ((ks ++ q :: more).map o) ks.length (saidOfP o ks) q = some (told (o q), ks.length + 1, saidOfP o ks ++ [(q, told (o q))]) := askV_gotP hl (by simp)
        rw [Tr.go_some (askS_someP hg), ho]
        have := go_stopP o ho q0 rest _ (ks ++ [q]) more h
        simpa [saidOfP] using this
theorem go_wholeP (o : List Pk → Int) (ho : ∀ q, told (o q) = o q) (extra : List Int) :
    ∀ (t : Tr (List Pk) Int α) (ks : List (List Pk)), t.go (askSP ((ks ++ t.asks o ks).map o ++ extra)) (ks.length, saidOfP o ks) = .inr (t.res o, ((ks ++ t.asks o ks).length, saidOfP o (ks ++ t.asks o ks)))
  | .ret _, ks => by simp [Tr.asks, Tr.go, Tr.res]
  | .ask q k, ks => by
    rw [Tr.asks, Tr.res]
    by_cases h0 : q ∈ ks
    · rw [if_pos h0, Tr.go_some (v := o q) (s' := (ks.length, saidOfP o ks)) (askS_someP (askV_knownP (by unfold saidOfP; rw [lookup_saidP, if_pos h0])))]
      exact go_wholeP o ho extra _ ks
    · rw [if_neg h0]
      have hl : @List.lookup (List Pk) Int instBEqOfDecidableEq q (saidOfP o ks) = none := by unfold saidOfP; rw [lookup_saidP, if_neg h0]
      have hg : askVP ((ks ++ q :: (k (o q)).asks o (ks ++ [q])).map o ++ extra) ks.length (saidOfP o ks) q = some (told (o q), ks.length + 1, saidOfP o ks ++ [(q, told (o q))]) := askV_gotP hl (by simp)
      rw [Tr.go_some (askS_someP hg), ho]
      have := go_wholeP o ho extra (k (o q)) (ks ++ [q])
      simpa [saidOfP] using this
end



theorem qOfP_stop {o : List Pk → Int} (ho : ∀ q, told (o q) = o q) {t : Tr (List Pk) Int PRes} {more rest : List (List Pk)} {q : List Pk} (h : t.asks o [] = more ++ q :: rest) (hl : more.length ≤ 4096) :
    qOfP (more.map o) t = (⟨false, q⟩, 0) := by
  unfold qOfP
  rw [if_neg (by simp; omega)]
  have := go_stopP o ho q rest t [] more h
  simp only [List.nil_append, List.length_nil, saidOfP, List.map_nil] at this
  rw [this]
  rfl
theorem qOfP_whole {o : List Pk → Int} (ho : ∀ q, told (o q) = o q) (t : Tr (List Pk) Int PRes) (hl : (t.asks o []).length ≤ 4096) :
    qOfP ((t.asks o []).map o) t = if (t.res o).1 ≠ 0 then (⟨false, []⟩, (t.res o).1) else (⟨true, (t.res o).2⟩, 0) := by
  unfold qOfP
  rw [if_neg (by simp; omega)]
  have := go_wholeP o ho [] t []
  simp only [List.nil_append, List.length_nil, saidOfP, List.map_nil, List.append_nil] at this
  rw [this]
  unfold finP
  simp

/-- What is asked of an oracle. -/
def schAsks (n : List Pk) (o : List Pk → Int) : List (List Pk) := (scheduleT n).asks o []
section
variable {n l : List Pk} {o : List Pk → Int}
theorem schT_few : ∀ (t : Nat) (l : List Pk) (k : Nat) (ks : List (List Pk)), NF l → k ≤ l.length → ((schT t l k).asks o ks).length + k ≤ l.length * l.length + l.length
  | 0, l, k, ks, _, hk => by simp [schT, Tr.asks]; omega
  | t + 1, l, k, ks, h, hk => by
    by_cases hlt : k < l.length
    · by_cases hl : laterOf l k < 0
      · rw [sch_skip hlt hl]
        have := schT_few t l (k + 1) ks h (by omega)
        omega
      · rw [sch_ask hlt hl]
        have hm := mv_step h hl
        have h1 := fun ks => schT_few t (mvdOf l k) 0 ks hm.nf (Nat.zero_le _)
        have h2 := fun ks => schT_few t l (k + 1) ks h (by omega)
        have hless := hm.less
        obtain ⟨m, hm'⟩ : ∃ m, l.length = m + 1 := ⟨l.length - 1, by omega⟩
        have hmul : (mvdOf l k).length * (mvdOf l k).length ≤ m * m := Nat.mul_le_mul (by omega) (by omega)
        have hsq : l.length * l.length = m * m + 2 * m + 1 := by rw [hm']; simp only [Nat.add_mul, Nat.mul_add]; omega
        rw [Tr.asks]
        split
        · split
          · have := h1 ks; omega
          · have := h2 ks; omega
        · rw [List.length_cons]
          split
          · have := h1 (ks ++ [mvdOf l k]); omega
          · have := h2 (ks ++ [mvdOf l k]); omega
    · rw [sch_end hlt]
      simp [Tr.asks]
      omega
/-- A schedule that may be asked for another. -/
structure Kin (n q : List Pk) : Prop where
  nf : NF q
  steps : ∀ t, stepsOf t q = stepsOf t n
  len : q.length ≤ n.length
theorem Kin.mv {k : Nat} (h : Kin n l) (hl : ¬ laterOf l k < 0) : Kin n (mvdOf l k) := by
  have hm := mv_step h.nf hl
  exact ⟨hm.nf, fun t => (hm.steps t).trans (h.steps t), by have := hm.less; have := h.len; omega⟩
theorem schT_all : ∀ (t : Nat) (l : List Pk) (k : Nat), Kin n l → (schT t l k).All (Kin n)
  | 0, l, k, _ => trivial
  | t + 1, l, k, h => by
    by_cases hlt : k < l.length
    · by_cases hl : laterOf l k < 0
      · rw [sch_skip hlt hl]; exact schT_all t l (k + 1) h
      · rw [sch_ask hlt hl]
        refine ⟨h.mv hl, fun a => ?_⟩
        show Tr.All _ (if a = 2 then _ else _)
        split
        · exact schT_all t _ 0 (h.mv hl)
        · exact schT_all t l (k + 1) h
    · rw [sch_end hlt]; trivial
/-- What a whole search keeps. -/
structure SchOk (n : List Pk) (o : List Pk → Int) (r : List Pk) : Prop where
  kin : Kin n r
  fails : o r = 2
  min : ∀ j, j < r.length → ¬ laterOf r j < 0 → o (mvdOf r j) ≠ 2
theorem schT_ok (t : Nat) (l : List Pk) (k : Nat) (h : Kin n l) (hn : n.length ≤ 256) (ho : o l = 2) (hk : k ≤ l.length) (hm : schM l k < t) (hj : ∀ j, j < k → ¬ laterOf l j < 0 → o (mvdOf l j) ≠ 2) : ((schT t l k).res o).1 = 0 ∧ SchOk n o ((schT t l k).res o).2 := by
  induction t generalizing l k with
  | zero => exact absurd hm (Nat.not_lt_zero _)
  | succ t ih =>
    have hnl := h.len
    by_cases hlt : k < l.length
    · have hnx := sch_next hlt
      by_cases hl : laterOf l k < 0
      · rw [sch_skip hlt hl]
        refine ih l (k + 1) h ho (by omega) (by omega) fun j h1 h2 => ?_
        rcases Nat.lt_succ_iff_lt_or_eq.1 h1 with h3 | rfl
        · exact hj j h3 h2
        · exact absurd hl h2
      · rw [sch_ask hlt hl, Tr.res]
        have hls := sch_less h.nf hl (by omega)
        by_cases h2 : o (mvdOf l k) = 2
        · rw [if_pos h2]
          exact ih _ 0 (h.mv hl) h2 (Nat.zero_le _) (by omega) fun j h1 => absurd h1 (Nat.not_lt_zero _)
        · rw [if_neg h2]
          refine ih l (k + 1) h ho (by omega) (by omega) fun j h1 h3 => ?_
          rcases Nat.lt_succ_iff_lt_or_eq.1 h1 with h4 | rfl
          · exact hj j h4 h3
          · exact h2
    · rw [sch_end hlt]
      exact ⟨rfl, h, ho, fun j h1 h2 => hj j (Nat.lt_of_lt_of_le h1 (Nat.le_of_not_lt hlt)) h2⟩
theorem Kin.self (h : NF n) : Kin n n := ⟨h, fun _ => rfl, Nat.le_refl _⟩
theorem sch_all (h : NF n) : (scheduleT n).All (Kin n) := by
  have h1 := schT_all (n := n) (schM n 0 + 1) n 0 (Kin.self h)
  unfold scheduleT
  generalize schT (schM n 0 + 1) n 0 = t at *
  refine ⟨Kin.self h, fun a => ?_⟩
  show Tr.All _ (if a = 2 then _ else _)
  split
  · exact h1
  · trivial
theorem schAsks_le (h : NF n) (hn : n.length ≤ 12) : (schAsks n o).length ≤ 200 := by
  unfold schAsks scheduleT
  rw [Tr.asks, if_neg (by simp), List.length_cons]
  have hmul : n.length * n.length ≤ 12 * 12 := Nat.mul_le_mul hn hn
  split
  · have := schT_few (o := o) (schM n 0 + 1) n 0 ([] ++ [n]) h (Nat.zero_le _)
    omega
  · simp [Tr.asks]
theorem schedule_in {ps : List Pk} {ans : List Int} (h : (normal ps).2 = 0) (hl : (normal ps).1.length ≤ 12) : scheduleOf ps ans = qOfP ans (scheduleT (normal ps).1) := by
  unfold scheduleOf
  rw [if_neg (by simp [h]), if_neg (by omega)]
theorem schAsks_at (ho : ∀ q, told (o q) = o q) {ps : List Pk} (h : (normal ps).2 = 0) (hl : (normal ps).1.length ≤ 12) {k : Nat} {q : List Pk} (hq : (schAsks (normal ps).1 o)[k]? = some q) :
    scheduleOf ps (((schAsks (normal ps).1 o).take k).map o) = (⟨false, q⟩, 0) ∧ Kin (normal ps).1 q := by
  obtain ⟨hk, hqe⟩ := List.getElem?_eq_some_iff.1 hq
  have hle := schAsks_le (o := o) (nf_normal h) hl
  refine ⟨?_, Tr.asks_all o _ [] (sch_all (nf_normal h)) q (List.mem_of_getElem? hq)⟩
  rw [schedule_in h hl]
  refine qOfP_stop ho (rest := (schAsks (normal ps).1 o).drop (k + 1)) ?_ (by rw [List.length_take]; omega)
  show schAsks (normal ps).1 o = _
  have e1 := (List.take_append_drop k (schAsks (normal ps).1 o)).symm
  rw [List.drop_eq_getElem_cons hk, hqe] at e1
  exact e1
theorem schAsks_end (ho : ∀ q, told (o q) = o q) {ps : List Pk} (h : (normal ps).2 = 0) (hl : (normal ps).1.length ≤ 12) :
    (o (normal ps).1 = 2 ∧ ∃ r, scheduleOf ps ((schAsks (normal ps).1 o).map o) = (⟨true, r⟩, 0) ∧ SchOk (normal ps).1 o r) ∨
    (o (normal ps).1 ≠ 2 ∧ (schAsks (normal ps).1 o).length = 1 ∧ scheduleOf ps ((schAsks (normal ps).1 o).map o) = (⟨false, []⟩, 7)) := by
  have hle := schAsks_le (o := o) (nf_normal h) hl
  have hw := qOfP_whole ho (scheduleT (normal ps).1) (by have : ((scheduleT (normal ps).1).asks o []).length ≤ 200 := hle; omega)
  rw [show (scheduleT (normal ps).1).asks o [] = schAsks (normal ps).1 o from rfl, ← schedule_in h hl] at hw
  by_cases h2 : o (normal ps).1 = 2
  · refine .inl ⟨h2, ((scheduleT (normal ps).1).res o).2, ?_, ?_⟩
    · have hr : (scheduleT (normal ps).1).res o = (schT (schM (normal ps).1 0 + 1) (normal ps).1 0).res o := by
        unfold scheduleT
        rw [Tr.res, if_pos h2]
      have hok := schT_ok (o := o) (schM (normal ps).1 0 + 1) (normal ps).1 0 (Kin.self (nf_normal h)) (by omega) h2 (Nat.zero_le _) (by omega) fun j h1 => by omega
      rw [← hr] at hok
      rw [hw, if_neg (by simp [hok.1])]
    · have hr : (scheduleT (normal ps).1).res o = (schT (schM (normal ps).1 0 + 1) (normal ps).1 0).res o := by
        unfold scheduleT
        rw [Tr.res, if_pos h2]
      have hok := schT_ok (o := o) (schM (normal ps).1 0 + 1) (normal ps).1 0 (Kin.self (nf_normal h)) (by omega) h2 (Nat.zero_le _) (by omega) fun j h1 => by omega
      rw [← hr] at hok
      exact hok.2
  · refine .inr ⟨h2, ?_, ?_⟩
    · unfold schAsks scheduleT
      rw [Tr.asks, if_neg (by simp)]
      simp only [if_neg h2, Tr.asks, List.length_cons, List.length_nil]
    · rw [hw]
      have hr : (scheduleT (normal ps).1).res o = (7, (normal ps).1) := by
        unfold scheduleT
        rw [Tr.res, if_neg h2]
        rfl
      rw [hr, if_pos (by simp)]
/-- The preemptions of a normal form, joined. -/
theorem pre_self (h : NF l) : preemptions l = (preempts l, 0) := by
  unfold preemptions
  rw [h.self]
  rfl
theorem join_self (h : NF l) {k : Nat} (hk : k < l.length) (hl : ¬ laterOf l k < 0) : joinAt l k = (mvdOf l k, 0) := by
  unfold joinAt
  rw [h.self]
  rw [if_neg (by simp), if_neg (by simp only [Int.toNat_natCast]; omega)]
  simp [mvdOf]
theorem pre_mem {x : Int} (h : x ∈ preempts l) : ∃ k : Nat, x = k ∧ k < l.length ∧ ¬ laterOf l k < 0 := by
  unfold preempts at h
  obtain ⟨k, hk, rfl⟩ := List.mem_map.1 h
  obtain ⟨h1, h2⟩ := List.mem_filter.1 hk
  refine ⟨k, rfl, by simpa using h1, ?_⟩
  unfold preemptAt at h2
  simpa using h2
end
end Go.Proofs.YtjpbmbonccenfaaDoor

/- Schedule without its measure; the preemptions that remain. -/
namespace Go.Proofs.YtjpbmbonccenfaaDoor
open Go.RowKit
set_option linter.unusedVariables false

theorem schT_fuel (t t' : Nat) (l : List Pk) (k : Nat) (hn : NF l) (hl : l.length ≤ 256) (h : schM l k < t) (h' : schM l k < t') : schT t l k = schT t' l k := by
  induction t generalizing t' l k with
  | zero => exact absurd h (Nat.not_lt_zero _)
  | succ t ih =>
    rcases t' with _ | t'
    · exact absurd h' (Nat.not_lt_zero _)
    · by_cases hlt : k < l.length
      · have hnx := sch_next hlt
        by_cases hla : laterOf l k < 0
        · rw [sch_skip hlt hla, sch_skip hlt hla]
          exact ih t' l (k + 1) hn hl (by omega) (by omega)
        · have hm := mv_step hn hla
          have hless := sch_less hn hla hl
          have hml := hm.less
          rw [sch_ask hlt hla, sch_ask hlt hla, ih t' (mvdOf l k) 0 hm.nf (by omega) (by omega) (by omega), ih t' l (k + 1) hn hl (by omega) (by omega)]
      · rw [sch_end hlt, sch_end hlt]
/-- Schedule from a preemption on. -/
def schS (l : List Pk) (k : Nat) : Tr (List Pk) Int PRes := schT (schM l k + 1) l k
section
variable {l : List Pk} {k : Nat}
theorem schS_end (h : ¬ k < l.length) : schS l k = .ret (0, l) := sch_end h
theorem schS_skip (hn : NF l) (hl : l.length ≤ 256) (h : k < l.length) (hla : laterOf l k < 0) : schS l k = schS l (k + 1) := by
  have hnx := sch_next h
  unfold schS
  rw [sch_skip h hla]
  exact schT_fuel _ _ _ _ hn hl (by omega) (by omega)
theorem schS_ask (hn : NF l) (hl : l.length ≤ 256) (h : k < l.length) (hla : ¬ laterOf l k < 0) : schS l k = .ask (mvdOf l k) fun v => if v = 2 then schS (mvdOf l k) 0 else schS l (k + 1) := by
  have hnx := sch_next h
  have hm := mv_step hn hla
  have hless := sch_less hn hla hl
  have hml := hm.less
  unfold schS
  rw [sch_ask h hla, schT_fuel (schM l k) (schM (mvdOf l k) 0 + 1) (mvdOf l k) 0 hm.nf (by omega) (by omega) (by omega), schT_fuel (schM l k) (schM l (k + 1) + 1) l (k + 1) hn hl (by omega) (by omega)]
/-- The preemptions from a place on. -/
def remP (l : List Pk) (k : Nat) : List Int := ((List.range' k (l.length - k)).filter (preemptAt l)).map fun (k : Nat) => (k : Int)
theorem remP_zero : remP l 0 = preempts l := by
  unfold remP preempts
  rw [List.range_eq_range', Nat.sub_zero]
theorem remP_end (h : ¬ k < l.length) : remP l k = [] := by
  unfold remP
  rw [show l.length - k = 0 by omega]
  rfl
theorem remP_step (h : k < l.length) : remP l k = if laterOf l k < 0 then remP l (k + 1) else (k : Int) :: remP l (k + 1) := by
  unfold remP
  rw [show l.length - k = (l.length - (k + 1)) + 1 by omega, List.range'_succ, List.filter_cons]
  by_cases hla : laterOf l k < 0
  · rw [if_neg (by unfold preemptAt; simpa using hla), if_pos hla]
  · rw [if_pos (by unfold preemptAt; simpa using hla), if_neg hla]
    rfl
theorem rem_nil (hn : NF l) (hl : l.length ≤ 256) : ∀ (m k : Nat), l.length - k = m → remP l k = [] → schS l k = .ret (0, l)
  | 0, k, h, _ => schS_end (by omega)
  | m + 1, k, h, hr => by
    have hlt : k < l.length := by omega
    rw [remP_step hlt] at hr
    by_cases hla : laterOf l k < 0
    · rw [if_pos hla] at hr
      rw [schS_skip hn hl hlt hla]
      exact rem_nil hn hl m (k + 1) (by omega) hr
    · rw [if_neg hla] at hr
      cases hr
theorem rem_cons (hn : NF l) (hl : l.length ≤ 256) {x : Int} {rest : List Int} : ∀ (m k : Nat), l.length - k = m → remP l k = x :: rest → ∃ j : Nat, x = j ∧ j < l.length ∧ ¬ laterOf l j < 0 ∧ schS l k = schS l j ∧ rest = remP l (j + 1)
  | 0, k, h, hr => by rw [remP_end (by omega)] at hr; cases hr
  | m + 1, k, h, hr => by
    have hlt : k < l.length := by omega
    rw [remP_step hlt] at hr
    by_cases hla : laterOf l k < 0
    · rw [if_pos hla] at hr
      rw [schS_skip hn hl hlt hla]
      exact rem_cons hn hl m (k + 1) (by omega) hr
    · rw [if_neg hla] at hr
      injection hr with h1 h2
      exact ⟨k, h1.symm, hlt, hla, rfl, h2.symm⟩
end
theorem askVP_len {ans : List Int} {u u' : Nat} {kn kn' : KnP} {q : List Pk} {v : Int} (h : askVP ans u kn q = some (v, u', kn')) (hk : kn.length ≤ u) : kn'.length ≤ u' := by
  unfold askVP at h
  split at h
  · simp at h
    obtain ⟨_, rfl, rfl⟩ := h
    exact hk
  · split at h
    · simp at h
      obtain ⟨_, rfl, rfl⟩ := h
      simp; omega
    · cases h
theorem scheduleT_S {n : List Pk} : scheduleT n = .ask n fun v => if v = 2 then schS n 0 else .ret (7, n) := rfl
end Go.Proofs.YtjpbmbonccenfaaDoor
