/- Texts of this seat, one behind the other: Rng, Rng2, Rng3, Mrk. -/
import Derived.Test.YtchldahkcpbgcaaGreatDoorsk2
import Derived.RangeFuncRecord
import Derived.RangeFuncCalls
import Derived.RangeFuncLeaves
import Derived.LoopN
import Derived.Scope
namespace Go.Proofs.YtchldahkcpbgcaaGreatDoor
set_option linter.unusedVariables false

/- A range over a function whose rounds may panic: laws of the walk, at frames of functions that there are. -/
section
open Go Go.RowKit
set_option linter.unusedSimpArgs false
section
variable {P : Program}
def wpR (P : Program) (c : Code) (Q : Exit → Act → World → Prop) (a : Act) (w : World) : Prop :=
 ∀ (b : Frame) (k : List Item) (cs : List Frame), (∃ fn, P.funcs[b.fn]? = some fn) → ∃ e a' w', Q e a' w' ∧ Arrives P (lone (b.at a (.code c :: k)) cs w) b k cs e a' w'
variable {Q : Exit → Act → World → Prop} {a : Act} {w : World}
theorem wpR_of_wp {c : Code} (h : c.wp P Q a w) : wpR P c Q a w := fun b k cs _ => h b k cs
theorem wpR_seq {x y : Code} (h : wpR P x (Exit.then (fun a w => wpR P y Q a w) Q) a w) : wpR P (Code.seq x y) Q a w := by
  intro b k cs hb
  obtain ⟨e, a₁, w₁, hq, harr⟩ := h b (.code y :: k) cs hb
  cases e with
  | normal =>
    obtain ⟨e₂, a₂, w₂, hq₂, harr₂⟩ := hq b k cs hb
    exact ⟨e₂, a₂, w₂, hq₂, .of_steps (.head step_seq harr) harr₂⟩
  | exit id => exact ⟨_, a₁, w₁, hq, .of_steps (.one step_seq) (.pass (x := .code y) rfl (fun _ _ => .inl (by simp)) harr)⟩
  | goto l => exact ⟨_, a₁, w₁, hq, .of_steps (.one step_seq) (.pass (x := .code y) rfl (fun _ _ => .inl (by simp)) harr)⟩
  | ret => exact ⟨_, a₁, w₁, hq, .of_steps (.one step_seq) (.pass (x := .code y) rfl (fun _ _ => .inl (by simp)) harr)⟩
  | panic ch => exact ⟨_, a₁, w₁, hq, .of_steps (.one step_seq) (.pass (x := .code y) rfl (fun _ _ => .inl (by simp)) harr)⟩
  | outgrown => exact ⟨_, a₁, w₁, hq, .of_steps (.one step_seq) (.pass (x := .code y) rfl (fun _ _ => .inl (by simp)) harr)⟩
theorem wpR_block {id : Nat} {c : Code} (h : wpR P c (Exit.inBlock id Q) a w) : wpR P (Code.block id c) Q a w := by
  intro b k cs hb
  obtain ⟨e, a₁, w₁, hq, harr⟩ := h b (.inBlock id :: k) cs hb
  cases e with
  | normal => exact ⟨.normal, a₁, w₁, hq, .head step_block (Steps.trans harr (.one step_inBlock))⟩
  | exit id' =>
    by_cases hid : id' = id
    · simp only [Exit.inBlock, hid, if_true] at hq
      exact ⟨.normal, a₁, w₁, hq, .head step_block (harr k (by simp [exitTo, hid]))⟩
    · simp only [Exit.inBlock, hid, if_false] at hq
      refine ⟨.exit id', a₁, w₁, hq, fun k' hk => .head step_block (harr k' ?_)⟩
      have : (id == id') = false := by simp; exact fun h => hid h.symm
      simp [exitTo, this, hk]
  | goto l => exact ⟨_, a₁, w₁, hq, fun k' hk => .head step_block (harr k' (by simp [gotoIn, hk]))⟩
  | ret => exact ⟨_, a₁, w₁, hq, .of_steps (.one step_block) harr⟩
  | panic ch => exact ⟨_, a₁, w₁, hq, .of_steps (.one step_block) harr⟩
  | outgrown => exact ⟨_, a₁, w₁, hq, .of_steps (b := b) (k := k) (cs := cs) (e := .outgrown) (.one step_block) harr⟩
theorem calls_of_wpR {f : FuncId} {fn : Func} {c : Code} {args : Array Value} {w : World} {R : Ending → World → Prop} (hf : P.funcs[f]? = some fn) (hb : fn.body = some c)
    (h : wpR P c (bodyPostM Fence.wide 0 P fn R) { tmps := args ++ Array.replicate (fn.ntmps - args.size) undef, defers := [] } w) : Calls P f args w R := by
  intro cs
  let b : Frame := { (default : Frame) with fn := f, kind := .normal, roundOf := none }
  have henter : Frame.enter P f args .normal = b.at { tmps := args ++ Array.replicate (fn.ntmps - args.size) undef, defers := [] } [.code c] := by
    simp [Frame.enter, Frame.at, hf, hb, b]
  obtain ⟨e, a', w', hq, harr⟩ := h b [] cs ⟨fn, hf⟩
  rw [← henter] at harr
  have fin : ∀ (u : FrameMode) (todo : List Item), u ≠ .run → LeavesInM Fence.wide 0 P fn a'.tmps R a'.defers u w' → Steps P (lone (Frame.enter P f args .normal) cs w) (lone { b.at a' todo with mode := u } cs w') →
      ∃ e w'' fr, R e w'' ∧ Comes P (lone (Frame.enter P f args .normal) cs w) (lone fr cs w'') e ∧ fr.fn = f ∧ fr.leaving P w'' e := by
    intro u todo _ hl hs
    obtain ⟨e', w'', fr', hR, hcs, hfn, hlv⟩ := leaves_stepsInM (F := Fence.wide) (n := 0) a'.defers u w' { b.at a' todo with mode := u } cs rfl rfl rfl hf rfl trivial (room_wide _) hl
    exact ⟨e', w'', fr', hR, Comes.of_steps hs (comesIn_wide.1 hcs), hfn, hlv⟩
  cases e with
  | normal => exact fin .returning [] (by simp) hq (Steps.trans harr (.one step_end))
  | ret =>
    obtain ⟨todo, hs⟩ := harr
    exact fin .returning todo (by simp) hq hs
  | panic chain =>
    obtain ⟨todo, hs⟩ := harr
    exact fin (.panicking chain) todo (by simp) hq hs
  | exit id => exact hq.elim
  | goto l => exact hq.elim
  | outgrown => exact ⟨.outgrown, w', b, hq, harr.resolve_left (by simp [b]), rfl, trivial⟩
end
end

/- A range over a function whose rounds may panic: one round; the statement. -/
section
open Go Go.RowKit
set_option linter.unusedSimpArgs false
section
variable {P : Program}
def roundPostP (P : Program) (l : Nat) (R : Ending → World → Prop) : Exit → Act → World → Prop
 | .normal, _, w => ∃ v w', (Instr.endRound l none).run P w = .ok v w' ∧ R (.returned v) w'
 | .ret, _, w => ∃ v w', (Instr.endRound l (some .ret)).run P w = .ok v w' ∧ R (.returned v) w'
 | .exit id, _, w => ∃ v w', (Instr.endRound l (some (.exit id))).run P w = .ok v w' ∧ R (.returned v) w'
 | .goto t, _, w => ∃ v w', (Instr.endRound l (some (.goto t))).run P w = .ok v w' ∧ R (.returned v) w'
 | .panic chain, a, w => a.defers = [] ∧ R (.panicked chain) w
 | .outgrown, _, _ => False
theorem roundIn_of_wpInP {l : Nat} {f : FuncId} {fn : Func} {tmps : Array Value} {assign body : Code} {w : World} {R : Ending → World → Prop} (hf : P.funcs[f]? = some fn)
    (h : assign.wpIn (Fence.wide.inRound l) 0 P (Exit.then (fun a₁ w₁ => ∃ w₂, (Instr.beginRound l).run P w₁ = .ok () w₂ ∧ body.wpIn (Fence.wide.inRound l) 0 P (roundPostP P l R) a₁ w₂) (fun _ _ _ => False))
      { tmps := tmps, defers := [] } w) :
    RoundIn Fence.wide 0 P l f tmps assign body w R := by
  refine ⟨trivial, fun c cs hr => ?_⟩
  let b : Frame := { (default : Frame) with fn := f, kind := .normal, roundOf := some l }
  have hb0 : Frame.round l f tmps assign body .normal = b.atR { tmps := tmps, defers := [] } [.code assign, .beginRound, .code body] := by
    simp [Frame.round, Frame.atR, b]
  have hF' : (Fence.wide.inRound l).fn b.fn := trivial
  have hr' : (Fence.wide.inRound l).room ((c :: cs).length + 1 + 0) := hr
  obtain ⟨e, a₁, w₁, hq, harr⟩ := h b [.beginRound, .code body] (c :: cs) rfl hF' hr'
  rw [← hb0] at harr
  cases e with
  | normal =>
    obtain ⟨w₂, hbr, hbody⟩ := hq
    have s1 : StepsIn (Machine.fenced P (Fence.wide.inRound l)) P (lone (b.atR a₁ [.beginRound, .code body]) (c :: cs) w₁) (lone (b.atR a₁ [.code body]) (c :: cs) w₂) :=
      .one (fenced_calm (fr := b.atR a₁ [.beginRound, .code body]) hF' hr' rfl) (stepR_beginRound rfl hbr)
    obtain ⟨e₂, a₂, w₃, hq₂, harr₂⟩ := hbody b [] (c :: cs) rfl hF' hr'
    cases e₂ with
    | normal =>
      obtain ⟨v, w₄, hend, hR⟩ := hq₂
      exact ⟨.returned v, w₄, hR, (StepsIn.trans harr s1).trans (StepsIn.trans harr₂ (.one (fenced_calm (fr := b.atR a₂ []) hF' hr' rfl) (stepR_round_end rfl rfl hend)))⟩
    | ret =>
      obtain ⟨v, w₄, hend, hR⟩ := hq₂
      obtain ⟨k₁, hs⟩ := harr₂.2 rfl
      exact ⟨.returned v, w₄, hR, (StepsIn.trans harr s1).trans (StepsIn.trans hs (.one (fenced_calm (fr := b.atR a₂ (.code .ret :: k₁)) hF' hr' rfl) (stepR_round_ret rfl rfl hend)))⟩
    | exit id =>
      obtain ⟨v, w₄, hend, hR⟩ := hq₂
      obtain ⟨k₁, hk, hs⟩ := harr₂.2 rfl rfl
      exact ⟨.returned v, w₄, hR, (StepsIn.trans harr s1).trans (StepsIn.trans hs (.one (fenced_calm (fr := b.atR a₂ (.code (.exit id) :: k₁)) hF' hr' rfl) (stepR_round_exit rfl rfl hk hend)))⟩
    | goto t =>
      obtain ⟨v, w₄, hend, hR⟩ := hq₂
      obtain ⟨k₁, hk, hs⟩ := harr₂.2 rfl rfl
      exact ⟨.returned v, w₄, hR, (StepsIn.trans harr s1).trans (StepsIn.trans hs (.one (fenced_calm (fr := b.atR a₂ (.code (.goto t) :: k₁)) hF' hr' rfl) (stepR_round_goto rfl rfl hk hend)))⟩
    | panic chain =>
      obtain ⟨hd, hR⟩ := hq₂
      obtain ⟨todo, hs⟩ := harr₂
      refine ⟨.panicked chain, w₃, hR, (StepsIn.trans harr s1).trans (StepsIn.trans hs (.one ?_ ?_))⟩
      · exact fenced_leaving (fr := { b.atR a₂ todo with mode := .panicking chain }) (e := .panicked chain) hF' hr' ⟨rfl, hd, fn, hf⟩
      · exact step_leave_panicked ⟨rfl, hd, fn, hf⟩
    | outgrown => exact hq₂.elim
  | exit id => exact hq.elim
  | goto t => exact hq.elim
  | ret => exact hq.elim
  | panic chain => exact hq.elim
  | outgrown => exact hq.elim

def Nc (W : World) (D : Nat) : Prop := (∃ ds, W.heap[D]? = some (.deferred ds)) ∧ ∃ r, W.heap[D + 1]? = some (.loop r)
def markOf (D : Nat) : Deferred := { target := .collected D, args := #[] }
theorem Fr.putObj (W : World) (S : List Nat) (l : Nat) (o : Obj) (hl : l ∈ S) : Fr S W (W.putObj l o) :=
 ⟨rfl, rfl, rfl, by simp, fun k hk hn => World.putObj_heap_other (fun e => hn (e ▸ hl))⟩
end
end

/- A range over a function of any number of values, whose iterator has memory of its own and whose rounds may lay memory ahead of the body. -/
section
open Go Go.RowKit
set_option linter.unusedSimpArgs false
section
variable {P : Program}
def Gives2 (P : Program) (gf : FuncId) (lb : Array Value) (f : Nat → Array Value) (n : Nat) (C : World → Prop) : Prop :=
 ∀ (l : Nat) (J : Nat → World → Prop) (Jx : World → Prop) (W0 : World), (∀ k W W' Z, J k W → Fr Z W W' → (∀ z ∈ Z, W0.heap.size ≤ z) → J k W') → (∀ W W' Z, Jx W → Fr Z W W' → (∀ z ∈ Z, W0.heap.size ≤ z) → Jx W') →
  (∀ k W, J k W → C W) → (∀ W, Jx W → C W) →
  (∀ k W1, k < n → J k W1 → YieldAt Fence.wide 0 P l (f k) W1 fun e W' => (∃ Z, Fr Z W1 W' ∧ ∀ z ∈ Z, z < W0.heap.size) ∧ ((e = .returned (.bool true) ∧ J (k + 1) W') ∨ (e = .returned (.bool false) ∧ Jx W'))) →
  J 0 W0 → CallsIn Fence.wide 0 P gf (#[.func (.yield l) #[] #[]] ++ lb) W0 fun e W' => (∃ v, e = .returned v) ∧ (J n W' ∨ Jx W')
def endQ (D : Nat) (I : Nat → World → Prop) (Ix : Code → World → Prop) (k : Nat) (W : World) : Exit → Act → World → Prop
 | .normal, _, W' => (∃ S, Fr S W W' ∧ ∀ z ∈ S, z < D) ∧ I (k + 1) W'
 | .ret, _, W' => (∃ S, Fr S W W' ∧ ∀ z ∈ S, z < D) ∧ Ix .ret W'
 | .exit id, _, W' => (∃ S, Fr S W W' ∧ ∀ z ∈ S, z < D) ∧ Ix (.exit id) W'
 | _, _, _ => False
theorem wpR_rangeFunc2 {Q : Exit → Act → World → Prop} {a : Act} {w : World} {g : Operand} {ps : Array Tmp} {assign body : Code} {gf : Nat} {lb : Array Value}
    (hg : a.eval g = .func (.func gf) #[] lb) (eg : ∀ args w, (callFunc gf args).run P w = .ok (.enter gf args) w) {f : Nat → Array Value} (hps : ∀ k, (f k).size = ps.size) {n : Nat} {C : World → Prop} (hseq : Gives2 P gf lb f n C)
    (I : Nat → World → Prop) (Ix : Code → World → Prop)
    (D : Nat) (hD : D = w.heap.size) (hI : ∀ k W W' Z, I k W → Fr Z W W' → (∀ z ∈ Z, D ≤ z) → I k W') (hIx : ∀ c W W' Z, Ix c W → Fr Z W W' → (∀ z ∈ Z, D ≤ z) → Ix c W')
    (hC : ∀ k W, I k W → C W) (hCx : ∀ c W, Ix c W → C W) (h0 : ∀ W, Fr [] w W → I 0 W)
    (hround : ∀ (k : Nat) (W : World), k < n → I k W → Nc W D → assign.wpIn (Fence.wide.inRound (D + 1)) 0 P (Exit.then (fun a₁ W₁ => Fr [] W W₁ ∧ ∀ W₂, Fr [D + 1] W₁ W₂ → Nc W₂ D →
      body.wpIn (Fence.wide.inRound (D + 1)) 0 P (endQ D I Ix k W₂) a₁ W₂) (fun _ _ _ => False)) { tmps := (ps.zip (f k)).foldl (fun t (p, v) => t.setIfInBounds p v) a.tmps, defers := [] } W)
    (hdone : ∀ W, I n W → W.heap[D]? = some (.deferred (some [])) → Q .normal { a with defers := markOf D :: a.defers } W)
    (hstop : ∀ c W, Ix c W → W.heap[D]? = some (.deferred (some [])) → wpR P c Q { a with defers := markOf D :: a.defers } W) :
    wpR P (Code.rangeFunc g ps assign body) Q a w := by
  rintro b k cs ⟨fnR, hfnR⟩
  obtain ⟨rec, hrec⟩ : ∃ rec : LoopState → Option Code → Loop, rec = fun st pe => { state := st, pending := pe, fn := b.fn, tmps := a.tmps, params := ps, assign, body, defers := D } := ⟨_, rfl⟩
  obtain ⟨W1, hW1⟩ : ∃ W1, (w.alloc (.deferred (some []))).alloc (.loop (rec .ready none)) = W1 := ⟨_, rfl⟩
  have hL1 : W1.heap[D + 1]? = some (.loop (rec .ready none)) := by
    rw [← hW1]; have := World.alloc_heap_new (w.alloc (.deferred (some []))) (.loop (rec .ready none)); rwa [World.size_alloc, ← hD] at this
  have hK1 : W1.heap[D]? = some (.deferred (some [])) := by
    rw [← hW1]; exact (Below.heap_alloc _ _ _ (by simp [hD])).trans (by rw [hD]; exact World.alloc_heap_new w _)
  have hI1 : I 0 W1 := by rw [← hW1]; exact h0 _ (((Fr.refl _ _).alloc _).alloc _)
  have hS1 : W1.heap.size = D + 2 := by rw [← hW1]; simp [hD]
  let b' : Frame := { b with roundOf := none }
  have hat : ∀ a todo, b.at a todo = b'.atR a todo := fun a todo => by simp [Frame.at, Frame.atR, b']
  have he : (Instr.enterLoop b'.fn a.tmps ps assign body b'.roundOf).run P w = .ok (D + 1, [markOf D]) W1 := by
    have := run_enterLoop_outer (P := P) (w := w) b.fn a.tmps ps assign body
    rw [← hW1, hrec]
    rw [← hD] at this
    exact this
  have hres : (resolve a.eval (rangeCall g (D + 1)) 0).run P W1 = .ok { target := .fn (.func gf) lb, args := #[.func (.yield (D + 1)) #[] #[]] } W1 := by
    simp only [resolve, hg]
    simp [go_sem]
  have hinv : (invoke (Target.fn (.func gf) lb) #[.func (.yield (D + 1)) #[] #[]]).run P W1 = .ok (.enter gf (#[.func (.yield (D + 1)) #[] #[]] ++ lb)) W1 := by
    simp [invoke, go_sem, eg]
  have henter := stepR_rangeFunc (P := P) (b := b') (a := a) (k := k) (cs := cs) (w := w) he hres hinv
  have hcall := hseq (D + 1)
    (fun k W => I k W ∧ W.heap[D + 1]? = some (.loop (rec .ready none)) ∧ W.heap[D]? = some (.deferred (some [])))
    (fun W => ∃ c, Ix c W ∧ W.heap[D + 1]? = some (.loop (rec .done (some c))) ∧ W.heap[D]? = some (.deferred (some [])))
    W1 (fun k W W' Z h hf hz => ⟨hI k W W' Z h.1 hf (fun z hzz => by have := hz z hzz; omega), hf.heap h.2.1 (fun hm => by have := hz _ hm; omega), hf.heap h.2.2 (fun hm => by have := hz _ hm; omega)⟩)
    (fun W W' Z h hf hz => by
      obtain ⟨c, h1, h2, h3⟩ := h
      exact ⟨c, hIx c W W' Z h1 hf (fun z hzz => by have := hz z hzz; omega), hf.heap h2 (fun hm => by have := hz _ hm; omega), hf.heap h3 (fun hm => by have := hz _ hm; omega)⟩)
    (fun k W h => hC k W h.1) (fun W h => by obtain ⟨c, h1, _⟩ := h; exact hCx c W h1) ?_ ⟨hI1, hL1, hK1⟩
  · obtain ⟨e, w₃, fr, hR, hsteps, hfn, hleave⟩ := hcall.2 (b'.atR { a with defers := [markOf D] ++ a.defers } (.inRangeFunc (D + 1) :: k) :: cs) (room_wide _)
    rw [hat]
    have s0 : Steps P (lone (b'.atR a (.code (.rangeFunc g ps assign body) :: k)) cs w) _ := .one henter
    obtain ⟨⟨v, rfl⟩, hJ⟩ := hR
    have s1 := s0.trans (comesIn_wide.1 hsteps)
    have s2 := s1.trans (.one (step_leave_returned hleave))
    rw [finish_atR_inRangeFunc] at s2
    rcases hJ with ⟨hi, hl, hk⟩ | ⟨c, hi, hl, hk⟩
    · have hend := run_endLoop (P := P) hl (by rw [hrec]; simp)
      have s3 := s2.trans (.one (stepR_endRangeFunc hend))
      refine ⟨.normal, { a with defers := [markOf D] ++ a.defers }, _, hdone _ (hI _ _ _ [D + 1] hi (Fr.putObj _ _ (D + 1) (.loop { rec .ready none with state := .exhausted }) (by simp)) (by simp)) ((World.putObj_heap_other (by omega)).trans hk), ?_⟩
      show Steps P _ _
      rw [hat]
      rw [hrec] at s3
      rw [hrec]
      exact s3
    · have hend := run_endLoop (P := P) hl (by rw [hrec]; simp)
      have s3 := s2.trans (.one (stepR_endRangeFunc hend))
      obtain ⟨e', a', w', hq, harr⟩ := hstop c _ (hIx _ _ _ [D + 1] hi (Fr.putObj _ _ (D + 1) (.loop { rec .done (some c) with state := .exhausted }) (by simp)) (by simp)) ((World.putObj_heap_other (by omega)).trans hk) b k cs ⟨fnR, hfnR⟩
      refine ⟨e', a', w', hq, .of_steps ?_ harr⟩
      rw [hat]
      rw [hrec] at s3
      rw [hrec]
      exact s3
  · rintro k W hkn ⟨hi, hl, hk⟩
    have hlt : D + 1 < W.heap.size := (Array.getElem?_eq_some_iff.1 hl).1
    have hy := run_yield (P := P) (args := f k) hl (by rw [hrec]; exact hps k)
    rw [hrec] at hy
    refine ⟨b.fn, _, assign, body, hy, roundIn_of_wpInP hfnR ?_⟩
    refine wpIn_mono (hround k W hkn hi ⟨⟨_, hk⟩, _, hl⟩) ?_
    rintro e₁ a₁ Wa hp
    cases e₁ with
    | normal =>
      obtain ⟨hfa, hbody⟩ := hp
      have hla := hfa.heap hl (by simp)
      have hka := hfa.heap hk (by simp)
      have hlta := Nat.lt_of_lt_of_le hlt hfa.size
      refine ⟨_, run_beginRound hla (by rw [hrec]), ?_⟩
      have hl2 : (Wa.putObj (D + 1) (.loop { rec .ready none with state := .busy })).heap[D + 1]? = some (.loop { rec .ready none with state := .busy }) := World.putObj_heap_same hlta
      have hk2 : (Wa.putObj (D + 1) (.loop { rec .ready none with state := .busy })).heap[D]? = some (.deferred (some [])) := (World.putObj_heap_other (by omega)).trans hka
      have hfb : Fr [D + 1] Wa (Wa.putObj (D + 1) (.loop { rec .ready none with state := .busy })) := Fr.putObj _ _ _ _ (by simp)
      refine wpIn_mono (hbody _ hfb ⟨⟨_, hk2⟩, _, hl2⟩) ?_
      have fin : ∀ (jump : Option Code) (W3 : World), (∃ S, Fr S (Wa.putObj (D + 1) (.loop { rec .ready none with state := .busy })) W3 ∧ ∀ z ∈ S, z < D) →
          (Instr.endRound (D + 1) jump).run P W3 = .ok (.bool jump.isNone) (W3.putObj (D + 1) (.loop (rec (if jump.isNone then .ready else .done) jump))) ∧
          (W3.putObj (D + 1) (.loop (rec (if jump.isNone then .ready else .done) jump))).heap[D + 1]? = some (.loop (rec (if jump.isNone then .ready else .done) jump)) ∧
          (W3.putObj (D + 1) (.loop (rec (if jump.isNone then .ready else .done) jump))).heap[D]? = some (.deferred (some [])) ∧
          (∃ Z, Fr Z W (W3.putObj (D + 1) (.loop (rec (if jump.isNone then .ready else .done) jump))) ∧ ∀ z ∈ Z, z < W1.heap.size) := fun jump W3 hc => by
        obtain ⟨S, hfS, hS⟩ := hc
        have hl3 := hfS.heap hl2 (fun hm => by have := hS _ hm; omega)
        have hk3 := hfS.heap hk2 (fun hm => by have := hS _ hm; omega)
        have := run_endRound (P := P) jump hl3
        rw [hrec] at this ⊢
        refine ⟨this, World.putObj_heap_same (Array.getElem?_eq_some_iff.1 hl3).1, (World.putObj_heap_other (by omega)).trans hk3, (D + 1) :: S, ?_, fun z hz => ?_⟩
        · have f1 := (hfa.mono (T := (D + 1) :: S) (by simp)).trans (hfb.mono (T := (D + 1) :: S) (by simp))
          rw [hrec] at f1 hfS
          exact (f1.trans (hfS.mono (fun x hx => by simp [hx]))).trans ((Fr.putObj _ [D + 1] _ _ (by simp)).mono (by simp))
        · rcases List.mem_cons.1 hz with rfl | hz
          · omega
          · have := hS z hz
            omega
      rintro e a3 W3 hp
      cases e with
      | normal =>
        obtain ⟨hc3, hi3⟩ := hp
        obtain ⟨hr, hl4, hk4, hz4⟩ := fin none W3 hc3
        exact ⟨_, _, hr, hz4, .inl ⟨rfl, hI _ _ _ [D + 1] hi3 (Fr.putObj _ _ _ _ (by simp)) (by simp), hl4, hk4⟩⟩
      | ret =>
        obtain ⟨hc3, hi3⟩ := hp
        obtain ⟨hr, hl4, hk4, hz4⟩ := fin (some .ret) W3 hc3
        exact ⟨_, _, hr, hz4, .inr ⟨rfl, .ret, hIx _ _ _ [D + 1] hi3 (Fr.putObj _ _ _ _ (by simp)) (by simp), hl4, hk4⟩⟩
      | exit id =>
        obtain ⟨hc3, hi3⟩ := hp
        obtain ⟨hr, hl4, hk4, hz4⟩ := fin (some (.exit id)) W3 hc3
        exact ⟨_, _, hr, hz4, .inr ⟨rfl, .exit id, hIx _ _ _ [D + 1] hi3 (Fr.putObj _ _ _ _ (by simp)) (by simp), hl4, hk4⟩⟩
      | goto t => exact hp.elim
      | panic ch => exact hp.elim
      | outgrown => exact hp.elim
    | exit id => exact hp.elim
    | goto t => exact hp.elim
    | ret => exact hp.elim
    | panic chain => exact hp.elim
    | outgrown => exact hp.elim
end
end

/- The marks of ranges over functions, taken off as a function is left. -/
section
open Go Go.RowKit
set_option linter.unusedSimpArgs false
theorem leaves_marks {P : Program} {fn : Func} {tmps : Array Value} {R : Ending → World → Prop} (u : FrameMode) (hu : u ≠ .run) : ∀ (ms : List Nat) (W : World), ms.Nodup → (∀ D ∈ ms, W.heap[D]? = some (.deferred (some []))) →
    (∀ W', Fr ms W W' → LeavesIn Fence.wide 0 P fn tmps R [] u W') → LeavesInM Fence.wide 0 P fn tmps R (ms.map markOf) u W
  | [], W, _, _, h => h W (Fr.refl _ _)
  | D :: ms, W, hn, hd, h => by
    obtain ⟨h1, h2⟩ := List.nodup_cons.1 hn
    refine ⟨hu, .inl ⟨D, _, rfl, run_takeDeferred (hd D (by simp)), ?_⟩⟩
    refine leaves_marks u hu ms _ h2 (fun D' hD' => (World.putObj_heap_other (fun e : D' = D => h1 (by rw [← e]; exact hD'))).trans (hd D' (by simp [hD']))) fun W' hf => h W' ?_
    exact (Fr.putObj W (D :: ms) D _ (by simp)).trans (hf.mono (by simp +contextual))
end

end Go.Proofs.YtchldahkcpbgcaaGreatDoor
