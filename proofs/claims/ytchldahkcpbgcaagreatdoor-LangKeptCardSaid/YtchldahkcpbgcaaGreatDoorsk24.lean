/- Texts of this seat, one behind the other: ParD, ParF. -/
import Derived.Test.YtchldahkcpbgcaaGreatDoorsk23
import Derived.Recover
import Derived.WideLaws
import Derived.Test.YtchldahkcpbgcaaGreatDoorsk22
namespace Go.Proofs.YtchldahkcpbgcaaGreatDoor
set_option linter.unusedVariables false

/- parsed: the program of words; a panic that tells a place is caught. -/
section
open Go.RowKit
set_option linter.unusedSimpArgs false
theorem wrong_not_nil (v : Value) (w : World) : (binOp .eql 20 (.iface 187 v) .nilIface).run Tryz.prog w = .ok (.bool false) w :=
 run_eql_held_nil _ _ _ _ (by kernel_rfl)
theorem wrong_assert (v : Value) (w : World) : (Instr.typeAssert (.iface 187 v) 20 187 true).run Tryz.prog w = .ok (.tuple #[v, .bool true]) w := by
 simp [Instr.typeAssert, run_underlying Tryz.underlying187]
def CatchW (w : World) (ob ab : Nat) (n : Int) (older : List PanicEntry) (e : Ending) (u' : FrameMode) (w' : World) : Prop :=
 e = .returned (.tuple #[]) ∧ u' = .panicking ({ wrongP n with recovered := true } :: older) ∧ Fr [ob, ab] w w' ∧ Blk w' ob 25 #[.slice none 0 0] ∧ Blk w' ab 3 #[.int .i64 n]
set_option maxHeartbeats 1600000 in
theorem catch_wrong (ob ab : Nat) (x : Value) (m n : Int) (older : List PanicEntry) (w : World) (hne : ob ≠ ab) (ho : Blk w ob 25 #[x]) (ha : Blk w ab 3 #[.int .i64 m]) :
  CallsD Tryz.prog 135 #[.pointer (some ⟨ob, 0, none⟩), .pointer (some ⟨ab, 0, none⟩)] (.panicking (wrongP n :: older)) w (CatchW w ob ab n older) := by
 refine callsD_of_wpS Tryz.func135 rfl fun c₀ cs hu => ?_
 simp only [Tryz.ntmps135, List.size_toArray, List.length_cons, List.length_nil, Nat.reduceAdd, Nat.reduceSub, Array.replicate_succ, Array.replicate_zero, List.push_toArray, List.append_toArray, List.nil_append, List.cons_append]
 apply wpS_seq
 apply wpS_region
 simp [wpOpsS, go_sem, recoverD, hu, wrongP, Exit.thenS]
 have hq1 := wrong_not_nil (.agg #[.int .i64 n])
 have hq2 := wrong_assert (.agg #[.int .i64 n])
 obtain ⟨W, hW⟩ : ∃ W, W = w.alloc (.cells #[.int .i64 n] 187) := ⟨_, rfl⟩
 have hf : Fr [] w W := by rw [hW]; exact (Fr.refl _ _).alloc _
 have hB : Blk W w.heap.size 187 #[.int .i64 n] := by rw [hW]; exact Blk.new _ _ _ _ rfl
 have ho1 := ho.fr hf (by simp)
 have ha1 := ha.fr hf (by simp)
 have q0 : W.cell? ⟨w.heap.size, 0, none⟩ = some (.int .i64 n) := hB.cell 0 rfl
 have o0 : W.cell? ⟨ob, 0, none⟩ = some x := ho1.cell 0 rfl
 have a0 : W.cell? ⟨ab, 0, none⟩ = some (.int .i64 m) := ha1.cell 0 rfl
 have oz := ho1.frozen 0
 have az := ha1.frozen 0
 have az2 : (W.setCell ⟨ob, 0, none⟩ (.slice none 0 0)).frozen? ⟨ab, 0, none⟩ = false := (ha1.far (p := ⟨ob, 0, none⟩) (by show ab ≠ ob; omega) _).frozen 0
 have oz2 : (W.setCell ⟨ab, 0, none⟩ (.int .i64 n)).frozen? ⟨ob, 0, none⟩ = false := (ho1.far (p := ⟨ab, 0, none⟩) (by show ob ≠ ab; omega) _).frozen 0
 have hol := ho.lt
 have hal := ha.lt
 have q1 : (W.setCell ⟨ob, 0, none⟩ (.slice none 0 0)).cell? ⟨w.heap.size, 0, none⟩ = some (.int .i64 n) := (hB.far (p := ⟨ob, 0, none⟩) (by show w.heap.size ≠ ob; omega) _).cell 0 rfl
 have HV := Lib.hid hW.symm
 clear hW
 refine wpS_of_wp ?_
 go_wp2_with fail
 rw [HV.out]
 go_region
 all_goals go_wp2_with fail
 all_goals refine ⟨rfl, _, rfl, .tuple #[], by simp [results, Tryz.results135], rfl, rfl, ?_⟩
 all_goals first
  | exact ⟨(((hf.mono (by simp)).setCell (p := ⟨ob, 0, none⟩) (.inl (by simp)) _).setCell (p := ⟨ab, 0, none⟩) (.inl (by simp)) _).drew, Blk.drew ((ho1.set_ 0 _).far (p := ⟨ab, 0, none⟩) (by show ob ≠ ab; omega) _), Blk.drew (Blk.set_ (ha1.far (p := ⟨ob, 0, none⟩) (by show ab ≠ ob; omega) _) 0 _)⟩
  | exact ⟨(((hf.mono (by simp)).setCell (p := ⟨ab, 0, none⟩) (.inl (by simp)) _).setCell (p := ⟨ob, 0, none⟩) (.inl (by simp)) _).drew, Blk.drew (Blk.set_ (ho1.far (p := ⟨ab, 0, none⟩) (by show ob ≠ ab; omega) _) 0 _), Blk.drew ((ha1.set_ 0 _).far (p := ⟨ob, 0, none⟩) (by show ab ≠ ob; omega) _)⟩
theorem catchW_idle (ob ab : Nat) (w : World) :
  CallsD Tryz.prog 135 #[.pointer (some ⟨ob, 0, none⟩), .pointer (some ⟨ab, 0, none⟩)] .returning w fun e u' w' => e = .returned (.tuple #[]) ∧ u' = .returning ∧ w' = w := by
 refine callsD_of_wpS Tryz.func135 rfl fun c₀ cs hu => ?_
 simp only [Tryz.ntmps135, List.size_toArray, List.length_cons, List.length_nil, Nat.reduceAdd, Nat.reduceSub, Array.replicate_succ, Array.replicate_zero, List.push_toArray, List.append_toArray, List.nil_append, List.cons_append]
 apply wpS_seq
 apply wpS_region
 simp [wpOpsS, go_sem, recoverD, hu, Exit.thenS]
 refine wpS_of_wp ?_
 go_wp2
 cases c₀
 simp_all [bodyPostS, results, Tryz.results135]
def RetPar (w : World) (ws : List Wd) (e : Nat) : List Fu ⊕ Nat → Ending → World → Prop
 | .inl fs => fun en w' => ∃ A' c' n, en = .returned (.tuple #[.agg #[.slice A' fs.length c'], .int .i64 (-1)]) ∧ RF (Bel w) n w' A' c' fs ∧ Fr [] w w'
 | .inr j => fun en w' => en = .returned (.tuple #[.agg #[.slice none 0 0], .int .i64 (placeAt ws e j)]) ∧ Fr [] w w'
set_option maxRecDepth 20000 in
set_option maxHeartbeats 3200000 in
theorem parsed_any (A : Option Addr) (c e : Nat) (ws : List Wd) (r : List Fu ⊕ Nat) (w : World) (hnum : NumOk ws) (hm : ws.length ≤ 1000000) (hrd : RWd w A c ws e) (hr : progW ws = some r) :
    Calls Tryz.prog 65 #[.slice A (ws.length + 1) c] w (RetPar w ws e r) := by
  have hmf : ∀ (fn : Fn) (first cap : Array Value) (w : World), (Instr.makeFunc fn first cap).run Tryz.prog w = .ok (.func fn first cap) w := fun _ _ _ _ => rfl
  obtain ⟨V, hV⟩ : ∃ V, V = ((w.alloc (.cells #[.slice none 0 0] 25)).alloc (.cells #[.int .i64 0] 3)).alloc (.cells #[.slice A (ws.length + 1) c, .int .i64 0] 190) := ⟨_, rfl⟩
  have hf0 : Fr [] w V := by rw [hV]; exact ((((Fr.refl _ _).alloc _).alloc _).alloc _)
  have hO : Blk V w.heap.size 25 #[.slice none 0 0] := by rw [hV]; exact ((Blk.new w _ _ _ rfl).alloc _).alloc _
  have hA : Blk V (w.heap.size + 1) 3 #[.int .i64 0] := by rw [hV]; exact (Blk.new _ _ _ _ (by simp)).alloc _
  have hP : Blk V (w.heap.size + 1 + 1) 190 #[.slice A (ws.length + 1) c, .int .i64 0] := by rw [hV]; exact Blk.new _ _ _ _ (by simp)
  have hrv := hrd.fr0 hf0
  have hat : PAt (w.heap.size + 1 + 1) A c ws e V 0 := ⟨hP, hrv, fun a ha => by
    obtain ⟨b, off, hA2, hc⟩ := hrd.cells (by simp)
    rw [hA2] at ha
    injection ha with ha
    subst ha
    have := World.block_lt_of_cell? w _ (hc 0 _ (flat_at e ws 0 0 (by omega) (Nat.zero_le _)))
    simp at this ⊢
    omega, Nat.zero_le _⟩
  have HC := Lib.hid (program_any (X := ⟨w.heap.size + 1 + 1, A, c, ws, e, hm⟩) hnum V hat hr)
  have HV := Lib.hid hV.symm
  clear hV hr
  cases r with
  | inl fs =>
    have HC : Hid (Calls Tryz.prog 136 #[.pointer (some ⟨w.heap.size + 1 + 1, 0, none⟩)] V fun en w' => ∃ A' c' n, en = .returned (.agg #[.slice A' fs.length c']) ∧ RF (Bel V) n w' A' c' fs ∧ Fr [w.heap.size + 1 + 1] V w') := HC
    go_enter_defers Tryz.func65, Tryz.ntmps65
    go_wp2_with fail
    rw [HV.out]
    refine HC.out.mono ?_
    rintro en w2 ⟨A', c', n, rfl, hrf, hf2⟩
    have hO2 := hO.fr hf2 (by simp <;> omega)
    have hA2 := hA.fr hf2 (by simp <;> omega)
    have o0 : w2.cell? ⟨w.heap.size, 0, none⟩ = some (.slice none 0 0) := hO2.cell 0 rfl
    have oz := hO2.frozen 0
    have a0 : w2.cell? ⟨w.heap.size + 1, 0, none⟩ = some (.int .i64 0) := hA2.cell 0 rfl
    have az := hA2.frozen 0
    have az2 : (w2.setCell ⟨w.heap.size, 0, none⟩ (.slice A' fs.length c')).frozen? ⟨w.heap.size + 1, 0, none⟩ = false := (hA2.far (p := ⟨w.heap.size, 0, none⟩) (by show w.heap.size + 1 ≠ w.heap.size; omega) _).frozen 0
    go_wp2_with fail
    refine leaves_cons (f := 135) (args := #[.pointer (some ⟨w.heap.size, 0, none⟩), .pointer (some ⟨w.heap.size + 1, 0, none⟩)]) (by simp) (by simp [go_sem]) ?_
    refine (catchW_idle _ _ _).mono ?_
    rintro e u' w3 ⟨rfl, rfl, rfl⟩
    have hO3 := (hO2.set_ 0 (.slice A' fs.length c')).far (p := ⟨w.heap.size + 1, 0, none⟩) (by show w.heap.size ≠ w.heap.size + 1; omega) (.int .i64 (-1))
    have hA3 := (hA2.far (p := ⟨w.heap.size, 0, none⟩) (by show w.heap.size + 1 ≠ w.heap.size; omega) (.slice A' fs.length c')).set_ 0 (.int .i64 (-1))
    have qo := hO3.cell 0 (u := .slice A' fs.length c') (by simp)
    have qa := hA3.cell 0 (u := .int .i64 (-1)) (by simp)
    simp [Leaves, settle, results, Tryz.results65, go_sem, qo, qa]
    have hS : Fr [w.heap.size, w.heap.size + 1] w2 ((w2.setCell ⟨w.heap.size, 0, none⟩ (.slice A' fs.length c')).setCell ⟨w.heap.size + 1, 0, none⟩ (.int .i64 (-1))) := ((Fr.refl _ _).setCell (p := ⟨w.heap.size, 0, none⟩) (.inl (by simp)) _).setCell (p := ⟨w.heap.size + 1, 0, none⟩) (.inl (by simp)) _
    have hVz := hP.lt
    refine ⟨A', c', n, rfl, (hrf.fr hS (fun k hk => by simp at hk; rcases hk with rfl | rfl <;> (show _ < V.heap.size) <;> omega)).sub (fun k _ hk => by have hk : k < w.heap.size := hk; have := hf0.size; show k < V.heap.size; omega), ?_⟩
    exact (hf0.trans2 hf2 (fun x hx => by simp at hx; subst hx; exact .inr (by omega))).trans2 hS (fun x hx => by simp at hx; rcases hx with rfl | rfl <;> exact .inr (by omega))
  | inr j =>
    have HC : Hid (Calls Tryz.prog 136 #[.pointer (some ⟨w.heap.size + 1 + 1, 0, none⟩)] V fun en w' => en = .panicked [wrongP (placeAt ws e j)] ∧ Fr [w.heap.size + 1 + 1] V w') := HC
    go_enter_defers Tryz.func65, Tryz.ntmps65
    go_wp2_with fail
    rw [HV.out]
    refine HC.out.mono ?_
    rintro en w2 ⟨rfl, hf2⟩
    have hO2 := hO.fr hf2 (by simp <;> omega)
    have hA2 := hA.fr hf2 (by simp <;> omega)
    go_wp2_with fail
    refine leaves_cons (f := 135) (args := #[.pointer (some ⟨w.heap.size, 0, none⟩), .pointer (some ⟨w.heap.size + 1, 0, none⟩)]) (by simp) (by simp [go_sem]) ?_
    refine (catch_wrong _ _ _ _ _ [] _ (by omega) hO2 hA2).mono ?_
    rintro en u' w3 ⟨rfl, rfl, hf3, hO3, hA3⟩
    have qo := hO3.cell 0 (u := .slice none 0 0) rfl
    have qa := hA3.cell 0 (u := .int .i64 (placeAt ws e j)) rfl
    simp [Leaves, settle, results, Tryz.results65, go_sem, qo, qa]
    exact ⟨rfl, (hf0.trans2 hf2 (fun x hx => by simp at hx; subst hx; exact .inr (by omega))).trans2 hf3 (fun x hx => by simp at hx; rcases hx with rfl | rfl <;> exact .inr (by omega))⟩
end

/- Parse of the program. -/
section
open Go.RowKit
set_option linter.unusedSimpArgs false
theorem uintM_val : ∀ (l : List UInt8) (M acc u : Nat), acc ≤ M → Lib.parseUintM M acc l = .ok u → u = l.foldl (fun a b => a * 10 + (b.toNat - 48)) acc ∧ u ≤ M
  | [], M, acc, u, ha, h => by
    simp only [Lib.parseUintM] at h
    injection h with h
    subst h
    exact ⟨rfl, ha⟩
  | c :: l, M, acc, u, ha, h => by
    rw [Lib.parseUintM] at h
    split at h
    · split at h
      · cases h
      · split at h
        · cases h
        · exact uintM_val l M _ u (by show acc * 10 + (c.toNat - 48) ≤ M; omega) h
    · cases h
theorem intB_val {l : List UInt8} {v : Int} (hd : ∀ c ∈ l, 48 ≤ c.toNat ∧ c.toNat ≤ 57) (h : Lib.parseIntB 64 l = .ok v) : v = digits l ∧ v ≤ 9223372036854775807 := by
  unfold Lib.parseIntB at h
  match l, hd, h with
  | [], _, h => cases h
  | c :: r, hd, h =>
    have hc := hd c (by simp)
    have h43 : ¬ c.toNat = 43 := by omega
    have h45 : ¬ c.toNat = 45 := by omega
    simp only [h43, h45, or_self, if_false] at h
    cases hu : Lib.parseUintB 64 (c :: r) with
    | range => rw [hu] at h; cases h
    | ok u =>
      rw [hu] at h
      simp only at h
      have hu2 : Lib.parseUintM (2 ^ 64 - 1) 0 (c :: r) = .ok u := by
        unfold Lib.parseUintB at hu
        rw [if_neg (by simp)] at hu
        exact hu
      obtain ⟨e1, e2⟩ := uintM_val _ _ _ _ (by omega) hu2
      simp only [false_and, not_false_eq_true, true_and, if_false] at h
      split at h
      · cases h
      · rename_i h5
        injection h with h
        have e3 : u = digits (c :: r) := e1
        constructor
        · rw [← h, e3]
        · rw [← h]
          have : ¬ 2 ^ 63 ≤ u := h5
          omega
    | _ => rw [hu] at h; cases h
theorem words_at {s : ByteArray} : ∀ (n k : Nat) (acc ws : List Wd), (∀ w ∈ acc, ∃ k, k < s.size ∧ oneW s k = some w) → wordsN s n k acc = .inl ws → ∀ w ∈ ws, ∃ k, k < s.size ∧ oneW s k = some w
  | 0, k, acc, ws, ha, h => by
    simp only [wordsN] at h
    injection h with h
    subst h
    exact ha
  | n + 1, k, acc, ws, ha, h => by
    rw [wordsN] at h
    split at h
    · rename_i hk
      cases ho : oneW s k with
      | none => rw [ho] at h; cases h
      | some wd =>
        rw [ho] at h
        refine words_at n _ _ ws (fun w hw => ?_) h
        rcases List.mem_append.1 hw with hw | hw
        · exact ha w hw
        · simp at hw
          subst hw
          exact ⟨k, hk, ho⟩
    · injection h with h
      subst h
      exact ha
theorem oneW_num {s : ByteArray} {k : Nat} {wd : Wd} (hk : k < s.size) (h : oneW s k = some wd) (h2 : wd.what = 2) : okNum wd.text = true ∧ ∀ j, j < wd.text.size → digB (byteAt wd.text j) = true := by
  unfold oneW at h
  split at h
  · simp only at h
    split at h
    · cases h
    · injection h with h
      subst h
      simp only at h2
      split at h2 <;> omega
  · rename_i hl
    split at h
    · rename_i hd
      simp only at h
      split at h
      · rename_i hn
        injection h with h
        subst h
        refine ⟨hn, fun j hj => ?_⟩
        obtain ⟨d, hd2⟩ : ∃ d, endOf digB s k = k + d := ⟨endOf digB s k - k, by have := (endOf_le (p := digB) (s := s) (k := k) (by omega)).1; omega⟩
        simp only at hj ⊢
        rw [hd2] at hj ⊢
        exact endOf_all hd2 j hj
      · cases h
    · cases hm : mkL.find? (fun m => m.data.toList.isPrefixOf (s.extract k s.size).data.toList) with
      | none => rw [hm] at h; cases h
      | some m =>
        rw [hm] at h
        injection h with h
        subst h
        cases h2
theorem words_num {s : ByteArray} {ws : List Wd} (hs : s.size ≤ 1000000) (h : wordsW s = .inl ws) : NumOk ws ∧ ∀ w ∈ ws, w.text.size ≤ 1000000 := by
  have hat := words_at s.size (skipTo s 0) [] ws (by simp) h
  refine ⟨fun i t ht => ?_, fun w hw => ?_⟩
  · unfold numW at ht
    cases hi : ws[i]? with
    | none => rw [hi] at ht; cases ht
    | some w =>
      rw [hi] at ht
      simp only at ht
      split at ht
      · rename_i hw2
        injection ht with ht
        subst ht
        obtain ⟨k, hk, ho⟩ := hat w (List.mem_of_getElem? hi)
        have hp := oneW_pos hk ho
        obtain ⟨h1, h2⟩ := oneW_num hk ho hw2
        have hall : ∀ c ∈ w.text.data.toList, 48 ≤ c.toNat ∧ c.toNat ≤ 57 := by
          intro c hc
          obtain ⟨k, hk⟩ := List.mem_iff_getElem?.1 hc
          have hlt : k < w.text.data.toList.length := (List.getElem?_eq_some_iff.1 hk).1
          have h1 := h2 k (by simpa using hlt)
          unfold byteAt at h1
          rw [← Array.getElem?_toList, hk] at h1
          simp [digB] at h1
          omega
        unfold okNum at h1
        rw [Bool.and_eq_true] at h1
        cases hq : Lib.parseIntB 64 w.text.data.toList with
        | ok v =>
          obtain ⟨e1, e2⟩ := intB_val hall hq
          refine ⟨by omega, ?_, ?_⟩
          · rw [e1]
          · rw [← e1]; exact e2
        | range => rw [hq] at h1; cases h1.1
        | _ => rw [hq] at h1; cases h1.1
      · cases ht
  · obtain ⟨k, hk, ho⟩ := hat w hw
    have hp := oneW_pos hk ho
    omega
theorem prog_sz {ws : List Wd} (hw : ∀ w ∈ ws, w.text.size ≤ 1000000) : ∀ (n : Nat) (acc : List Fu) (i : Nat) (fs : List Fu), i ≤ ws.length → cntF acc ≤ i → TxF acc → progN ws n acc i = some (.inl fs) → cntF fs ≤ ws.length ∧ TxF fs
  | 0, acc, i, fs, _, _, _, h => by simp [progN] at h
  | n + 1, acc, i, fs, hi, hc, ht, h => by
    rw [progN] at h
    split at h
    · split at h
      · cases hn : nameW ws (i + 1) with
        | none => rw [hn] at h; injection h with h; cases h
        | some t =>
          rw [hn] at h
          simp only at h
          have hl := nameW_lt hn
          cases hm : namesW ws (i + 2) with
          | inr j => rw [hm] at h; injection h with h; cases h
          | inl p =>
            obtain ⟨ps, j⟩ := p
            rw [hm] at h
            simp only at h
            have hg := namesW_good (ws := ws) (i := i + 2) (by omega)
            rw [hm] at hg
            simp only at hg
            obtain ⟨q, hq, hqk⟩ := blockW_some hg.2
            rw [hq] at h
            cases q with
            | bad k => injection h with h; cases h
            | ok l b k =>
              simp only at h
              have hs := P_sz ws hw _ .block _ _ _ _ trivial hq
              have hk := hqk l b k rfl
              have hcl := hs.cnt
              simp only [cntJob] at hcl
              refine prog_sz hw n _ k fs hk.2 ?_ (fun f hf => ?_) h
              · unfold cntF at hc ⊢
                rw [List.map_append, List.sum_append]
                simp
                omega
              · rcases List.mem_append.1 hf with hf | hf
                · exact ht f hf
                · simp at hf
                  subst hf
                  exact ⟨nameW_tx hw hn, namesW_tx hw hm, hs.tx⟩
      · injection h with h; cases h
    · injection h with h
      injection h with h
      subst h
      exact ⟨by omega, ht⟩
theorem progW_sz {ws : List Wd} {fs : List Fu} (hw : ∀ w ∈ ws, w.text.size ≤ 1000000) (h : progW ws = some (.inl fs)) : cntF fs ≤ ws.length ∧ TxF fs :=
 prog_sz hw _ _ _ fs (Nat.zero_le _) (by simp [cntF]) (fun f hf => by cases hf) h
def parseO (s : ByteArray) : List Fu × Int × Int :=
  if 65536 < s.size then ([], 0, 3) else
  match wordsW s with
  | .inr k => ([], k, 4)
  | .inl ws => match progW ws with
    | some (.inl fs) => if shapeP fs = 0 then (fs, 0, 0) else ([], 0, shapeP fs)
    | some (.inr j) => ([], placeAt ws s.size j, 4)
    | none => ([], 0, 0)
def RetParse (w : World) (r : List Fu × Int × Int) (en : Ending) (w' : World) : Prop :=
 ∃ A c n, en = .returned (.tuple #[.agg #[.slice A r.1.length c], .int .i64 r.2.1, .int .i64 r.2.2]) ∧ RF (Bel w) n w' A c r.1 ∧ Fr [] w w'
theorem results_parse {fn : Func} {p a b : Tmp} (h : fn.results = #[.cell p 25, .tmp a, .tmp b]) (tmps : Array Value) (w : World) (g : Nat) {a0 : Value} (hp : tmps.getD p undef = .pointer (some ⟨g, 0, none⟩)) (hb : Blk w g 25 #[a0]) :
  (results fn tmps).run Tryz.prog w = .ok (.tuple #[.agg #[a0], tmps.getD a undef, tmps.getD b undef]) w := by
 have c0 := hb.cell 0 rfl
 simp only [Array.getD_eq_getD_getElem?] at hp
 simp [results, h, go_sem, hp, c0]
theorem RF.nil_ (S : Nat → Prop) (n : Nat) (w : World) : RF S n w none 0 [] := ⟨Nat.le_refl _, Nat.zero_le _, fun h => absurd h (Nat.lt_irrefl _)⟩
theorem placeAt_nat (ws : List Wd) (e i : Nat) : ∃ n : Nat, placeAt ws e i = n := by
 unfold placeAt
 cases ws[i]? with
 | none => exact ⟨e, rfl⟩
 | some w => exact ⟨w.place, rfl⟩
set_option maxRecDepth 20000 in
set_option maxHeartbeats 3200000 in
theorem Parse_any (s : ByteArray) (w : World) (hmax : s.size ≤ 9223372036854775807) (ht : Tab w) : Calls Tryz.prog 17 #[.string s] w (RetParse w (parseO s)) := by
  obtain ⟨W, hW⟩ : ∃ W, W = w.alloc (.cells #[.slice none 0 0] 25) := ⟨_, rfl⟩
  have hf0 : Fr [] w W := by rw [hW]; exact (Fr.refl _ _).alloc _
  have hB : Blk W w.heap.size 25 #[.slice none 0 0] := by rw [hW]; exact Blk.new _ _ _ _ rfl
  have hz := hB.lt
  have q0 : W.cell? ⟨w.heap.size, 0, none⟩ = some (.slice none 0 0) := hB.cell 0 rfl
  have qz := hB.frozen 0
  have HW := Lib.hid hW.symm
  clear hW
  have hset : ∀ (V : World) (v : Value), Fr [w.heap.size] V (V.setCell ⟨w.heap.size, 0, none⟩ v) := fun V v => (Fr.refl _ _).setCell (.inl (by simp)) _
  by_cases h1 : 65536 < s.size
  · have HR : Hid (parseO s = ([], 0, 3)) := Lib.hid (by unfold parseO; rw [if_pos h1])
    go_enter Tryz.func17, Tryz.ntmps17
    go_upto_region 1 with fail
    rw [HW.out]
    go_wp2
    refine bodyPost_ret (results_parse rfl _ _ w.heap.size rfl (hB.set_ 0 _)) rfl ?_
    rw [HR.out]
    exact ⟨none, 0, 0, rfl, RF.nil_ _ _ _, hf0.setCell (p := ⟨w.heap.size, 0, none⟩) (.inr (Nat.le_refl _)) _⟩
  have hs : s.size ≤ 1000000 := by omega
  have HC := Lib.hid (cut_any s W hs (ht.fr hf0))
  cases hw : wordsW s with
  | inr k =>
    have HR : Hid (parseO s = ([], (k : Int), 4)) := Lib.hid (by unfold parseO; rw [if_neg h1, hw])
    rw [hw] at HC
    clear hw
    go_enter Tryz.func17, Tryz.ntmps17
    go_upto_region 1 with fail
    rw [HW.out]
    go_wp2_with fail
    refine HC.out.mono ?_
    rintro e w1 ⟨rfl, hf1, hk⟩
    have hB1 := hB.fr hf1 (by simp)
    have q0 : w1.cell? ⟨w.heap.size, 0, none⟩ = some (.slice none 0 0) := hB1.cell 0 rfl
    have qz := hB1.frozen 0
    go_wp2
    refine bodyPost_ret (results_parse rfl _ _ w.heap.size rfl (hB1.set_ 0 _)) rfl ?_
    rw [HR.out]
    exact ⟨none, 0, 0, rfl, RF.nil_ _ _ _, (hf0.trans hf1).setCell (p := ⟨w.heap.size, 0, none⟩) (.inr (Nat.le_refl _)) _⟩
  | inl ws =>
    obtain ⟨hnum, htx⟩ := words_num hs hw
    obtain ⟨r, hr⟩ := progW_some ws
    rw [hw] at HC
    cases r with
    | inr j =>
      obtain ⟨pn, hpn⟩ := placeAt_nat ws s.size j
      have HR : Hid (parseO s = ([], (pn : Int), 4)) := Lib.hid (by unfold parseO; rw [if_neg h1, hw]; simp only; rw [hr]; simp only; rw [hpn])
      have HNM := Lib.hid hnum
      have HRR := Lib.hid hr
      clear hw hnum htx hr
      go_enter Tryz.func17, Tryz.ntmps17
      go_upto_region 1 with fail
      rw [HW.out]
      go_wp2_with fail
      refine HC.out.mono ?_
      rintro e w1 ⟨A, c, rfl, hf1, hrd, hnew, hlen⟩
      have hB1 := hB.fr hf1 (by simp)
      go_wp2_with fail
      refine (parsed_any A c s.size ws (.inr j) _ HNM.out (by omega) (hrd.fr0 frx) HRR.out).mono ?_
      rintro e w2 ⟨rfl, hf2⟩
      rw [hpn]
      have hf2 : Fr [] w1 w2 := Fr.trans frx hf2
      have hB2 := hB1.fr hf2 (by simp)
      have q0 : w2.cell? ⟨w.heap.size, 0, none⟩ = some (.slice none 0 0) := hB2.cell 0 rfl
      have qz := hB2.frozen 0
      clear hpn
      go_wp2
      refine bodyPost_ret (results_parse rfl _ _ w.heap.size rfl ((hB2.set_ 0 _).set_ 0 _)) rfl ?_
      rw [HR.out]
      exact ⟨none, 0, 0, rfl, RF.nil_ _ _ _, (((hf0.trans hf1).trans hf2).setCell (p := ⟨w.heap.size, 0, none⟩) (.inr (Nat.le_refl _)) _).setCell (p := ⟨w.heap.size, 0, none⟩) (.inr (Nat.le_refl _)) _⟩
    | inl fs =>
      obtain ⟨hsz, htf⟩ := progW_sz htx hr
      have HNM := Lib.hid hnum
      have HRR := Lib.hid hr
      have HTF := Lib.hid htf
      obtain ⟨sp, hsp⟩ : ∃ sp, shapeP fs = sp := ⟨_, rfl⟩
      have HR : Hid (parseO s = if sp = 0 then (fs, 0, 0) else ([], 0, sp)) := Lib.hid (by unfold parseO; rw [if_neg h1, hw]; simp only; rw [hr]; simp only; rw [hsp])
      have HSP := Lib.hid hsp
      clear hw hnum htx hr htf hsp
      go_enter Tryz.func17, Tryz.ntmps17
      go_upto_region 1 with fail
      rw [HW.out]
      go_wp2_with fail
      refine HC.out.mono ?_
      rintro e w1 ⟨A, c, rfl, hf1, hrd, hnew, hlen⟩
      have hB1 := hB.fr hf1 (by simp)
      have hz1 := hf1.size
      go_wp2_with fail
      refine (parsed_any A c s.size ws (.inl fs) _ HNM.out (by omega) (hrd.fr0 frx) HRR.out).mono ?_
      rintro e w2 ⟨A', c', n, rfl, hrf, hf2⟩
      have hf2 : Fr [] w1 w2 := Fr.trans frx hf2
      have hrf : RF (fun b => b ≤ w.heap.size) n w2 A' c' fs := hrf.sub fun k _ hk => by
        have hlt5 : k < w1.heap.size := by omega
        exact hlt5
      have hB2 := hB1.fr hf2 (by simp)
      have q0 : w2.cell? ⟨w.heap.size, 0, none⟩ = some (.slice none 0 0) := hB2.cell 0 rfl
      have qz := hB2.frozen 0
      have hF2 := (hf0.trans hf1).trans hf2
      go_upto_region 7 with fail
      refine wp_hide (fun M hM => ?_)
      have hfM : Fr [w.heap.size] w2 M := by rw [hM]; exact hset _ _
      have hBM : Blk M w.heap.size 25 #[.slice A' fs.length c'] := by rw [hM]; simpa using hB2.set_ 0 (.slice A' fs.length c')
      have hrM := hrf.fr hfM (fun k hk => by simp at hk; subst hk; exact Nat.le_refl _)
      have hFM : Fr [] w M := hF2.trans2 hfM (fun x hx => by simp at hx; subst hx; exact .inr (Nat.le_refl _))
      have m0 : M.cell? ⟨w.heap.size, 0, none⟩ = some (.slice A' fs.length c') := hBM.cell 0 rfl
      have hS := Lib.hid (Shape_any A' c' fs _ n M hrM (by omega) HTF.out)
      clear hM q0 qz
      go_wp2_with fail
      refine hS.out.mono ?_
      rw [HSP.out]
      rintro e w3 ⟨rfl, hf3⟩
      have hB3 := hBM.fr hf3 (by simp)
      have m0 : w3.cell? ⟨w.heap.size, 0, none⟩ = some (.slice A' fs.length c') := hB3.cell 0 rfl
      have mz := hB3.frozen 0
      by_cases h0 : sp = 0
      · rw [h0, if_pos rfl] at HR
        rw [h0]
        clear h0
        go_wp2
        refine bodyPost_ret (results_parse rfl _ _ w.heap.size rfl (hB3.set_ 0 _)) rfl ?_
        rw [HR.out]
        refine ⟨A', c', n, rfl, ?_, (hFM.trans hf3).setCell (p := ⟨w.heap.size, 0, none⟩) (.inr (Nat.le_refl _)) _⟩
        exact ((hrM.fr0 hf3).fr (hset _ _) (fun k hk => by simp at hk; subst hk; exact Nat.le_refl _)).sub fun k _ hk => by have hk : k < w.heap.size := hk; omega
      · rw [if_neg h0] at HR
        have hn0 : (sp != 0) = true := by simpa using h0
        clear h0
        go_wp2
        refine bodyPost_ret (results_parse rfl _ _ w.heap.size rfl (hB3.set_ 0 _)) rfl ?_
        rw [HR.out]
        exact ⟨none, 0, 0, rfl, RF.nil_ _ _ _, (hFM.trans hf3).setCell (p := ⟨w.heap.size, 0, none⟩) (.inr (Nat.le_refl _)) _⟩
end

end Go.Proofs.YtchldahkcpbgcaaGreatDoor
