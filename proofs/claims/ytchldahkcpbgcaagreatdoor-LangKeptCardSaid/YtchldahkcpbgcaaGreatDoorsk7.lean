/- Texts of this seat, one behind the other: Map. -/
import Derived.Test.YtchldahkcpbgcaaGreatDoorsk2
import Derived.Carry
import Derived.Maps.Own
namespace Go.Proofs.YtchldahkcpbgcaaGreatDoor
set_option linter.unusedVariables false

/- A map that the call has made, as a list of pairs: look-up, and a store under a new key. -/
section
open Go.RowKit
set_option linter.unusedSimpArgs false
set_option linter.unusedSectionVars false
def MapAt {κ ν : Type} (w : World) (b : Nat) (ek : κ → Value) (ev : ν → Value) (m : List (κ × ν)) : Prop :=
 ∃ es clock, w.heap[b]? = some (.map es clock) ∧ es.toList.map (fun e => (e.key, e.val)) = m.map fun p => (ek p.1, ev p.2)
structure KeyT {κ : Type} [DecidableEq κ] (P : Program) (kt : TypeId) (kind : TypeDesc) (ek : κ → Value) : Prop where
 und : P.underlying kt = some kind
 same : ∀ a b, Instr.sameNow kind (ek a) (ek b) = some (decide (a = b))
 check : ∀ (w : World) (em : Bool) (a : κ), (Instr.checkKey em 10000 kt (ek a)).run P w = .ok () w
section
variable {κ ν : Type} [DecidableEq κ] {w w' : World} {b : Nat} {ek : κ → Value} {ev : ν → Value} {m : List (κ × ν)} {P : Program}
theorem MapAt.lt (h : MapAt w b ek ev m) : b < w.heap.size := by
 obtain ⟨es, clock, hb, _⟩ := h
 exact lt_of_block hb
theorem MapAt.new (w : World) (ek : κ → Value) (ev : ν → Value) (H : Nat) (hH : H = w.heap.size) : MapAt (w.alloc (.map #[] 0)) H ek ev [] := by
 subst hH
 exact ⟨#[], 0, heap_alloc_new w _, rfl⟩
theorem MapAt.fr {S : List Nat} (h : MapAt w b ek ev m) (hf : Fr S w w') (hn : b ∉ S) : MapAt w' b ek ev m := by
 obtain ⟨es, clock, hb, hm⟩ := h
 exact ⟨es, clock, hf.heap hb hn, hm⟩
theorem MapAt.fr0 (h : MapAt w b ek ev m) (hf : Fr [] w w') : MapAt w' b ek ev m := h.fr hf (by simp)
theorem findNow_eq {kind : TypeDesc} (hs : ∀ a b, Instr.sameNow kind (ek a) (ek b) = some (decide (a = b))) (k : κ) : ∀ (es : List MapEntry) (m : List (κ × ν)) (i : Nat), es.map (fun e => (e.key, e.val)) = m.map (fun p => (ek p.1, ev p.2)) →
    ∃ j, Instr.findNow kind (ek k) es i = some ((m.lookup k).map fun v => (j, ev v))
  | [], [], _, _ => ⟨0, by simp [Instr.findNow]⟩
  | e :: es, [], i, h => by simp at h
  | [], p :: m, i, h => by simp at h
  | e :: es, (k', v') :: m, i, h => by
    simp only [List.map_cons, List.cons.injEq, Prod.mk.injEq] at h
    obtain ⟨⟨h1, h2⟩, h3⟩ := h
    by_cases hk : k = k'
    · subst hk
      exact ⟨i, by simp [Instr.findNow, h1, hs, h2, List.lookup]⟩
    · obtain ⟨j, hj⟩ := findNow_eq hs k es m (i + 1) h3
      exact ⟨j, by simp [Instr.findNow, h1, hs, hk, hj, List.lookup, beq_eq_false_iff_ne.2 hk]⟩

theorem run_lookup_at {t kt et : TypeId} {kind : TypeDesc} (K : KeyT P kt kind ek) (ht : P.underlying t = some (.map kt et)) (z : ν) (hz : (zeroValue et).run P w = .ok (ev z) w) (h : MapAt w b ek ev m) (k : κ) :
    (Instr.lookup t (.map (some b)) (ek k) true).run P w = .ok (.tuple #[ev ((m.lookup k).getD z), .bool (m.lookup k).isSome]) w := by
  obtain ⟨es, clock, hb, hm⟩ := h
  obtain ⟨j, hj⟩ := findNow_eq K.same k es.toList m 0 hm
  have hg : (getObj b).run P w = .ok (.map es clock) w := by simp [getObj, Sem.run, hb]
  cases hl : m.lookup k with
  | none =>
    rw [hl] at hj
    simp at hj
    simp [Instr.lookup, run_underlying ht, hg, K.check, Instr.findKey, run_underlying K.und, hj, hz]
  | some v =>
    rw [hl] at hj
    simp at hj
    simp [Instr.lookup, run_underlying ht, hg, K.check, Instr.findKey, run_underlying K.und, hj]

theorem run_store_new {t kt et : TypeId} {kind : TypeDesc} (K : KeyT P kt kind ek) (ht : P.underlying t = some (.map kt et)) (h : MapAt w b ek ev m) (k : κ) (v : ν) (hk : m.lookup k = none) :
  ∃ w', (Instr.mapUpdate t (.map (some b)) (ek k) (ev v)).run P w = .ok () w' ∧ MapAt w' b ek ev (m ++ [(k, v)]) ∧ Fr [b] w w' := by
 obtain ⟨es, clock, hb, hm⟩ := h
 obtain ⟨j, hj⟩ := findNow_eq K.same k es.toList m 0 hm
 rw [hk] at hj
 simp at hj
 have hg : (getObj b).run P w = .ok (.map es clock) w := by simp [getObj, Sem.run, hb]
 have hs : (setObj b (.map (es.push { key := ek k, val := ev v, born := clock }) (clock + 1))).run P w = .ok () { w with heap := w.heap.setIfInBounds b (.map (es.push { key := ek k, val := ev v, born := clock }) (clock + 1)) } := by
  simp [setObj, Sem.run, hb]
 refine ⟨{ w with heap := w.heap.setIfInBounds b (.map (es.push { key := ek k, val := ev v, born := clock }) (clock + 1)) }, ?_, ⟨es.push { key := ek k, val := ev v, born := clock }, clock + 1, ?_, ?_⟩, ?_⟩
 ·simp [Instr.mapUpdate, run_underlying ht, hg, K.check, Instr.findKey, run_underlying K.und, hj, hs]
 ·have := lt_of_block hb
  simp [this]
 ·simp [hm]
 ·refine ⟨rfl, rfl, rfl, by simp, fun i hi hn => ?_⟩
  have hne : b ≠ i := by
   rintro rfl
   exact hn (by simp)
  simp [hne]
end
theorem keyInt {P : Program} {kt : TypeId} {q : IntKind} (hu : P.underlying kt = some (.int q)) : KeyT P kt (.int q) (fun z : Int => Value.int q z) :=
 ⟨hu, fun a b => by
  have : (a == b) = decide (a = b) := by rw [Bool.eq_iff_iff]; simp
  simp [Instr.sameNow, this], fun w em a => by
  rw [show (10000 : Nat) = 9999 + 1 from rfl, Instr.checkKey]
  simp [run_underlying hu]⟩
end

end Go.Proofs.YtchldahkcpbgcaaGreatDoor
