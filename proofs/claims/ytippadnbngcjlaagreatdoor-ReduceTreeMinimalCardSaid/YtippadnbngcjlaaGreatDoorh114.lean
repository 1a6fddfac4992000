/- Texts of this seat, one behind the other: Nc. -/
import Derived.Test.YtippadnbngcjlaaGreatDoorh113
import Derived.Test.YtippadnbngcjlaaGreatDoorh14
import Derived.Test.YtippadnbngcjlaaGreatDoorh16
namespace Go.Proofs.YtippadnbngcjlaaGreatDoor
set_option linter.unusedVariables false

/- The loop's two blocks hold no cells; marks at a function's end; chunks. -/
section
open Go Go.RowKit
section
variable {W W' : World} {D : Nat}
theorem Nc.cell (h : Nc W D) {a : Addr} {u : Value} (hc : W.cell? a = some u) : a.block ∉ [D, D + 1] := by
 obtain ⟨⟨ds, h1⟩, r, h2⟩ := h
 intro hm
 simp at hm
 rcases hm with hm | hm
 ·simp [World.cell?, hm, h1] at hc
 ·simp [World.cell?, hm, h2] at hc
theorem Nc.rd {α : Type} {enc : α → Value} {A : Option Addr} {c : Nat} {xs : List α} (h : Nc W D) (hr : Rd W enc A c xs) : 0 < xs.length → ∀ a, A = some a → a.block ∉ [D, D + 1] := by
 intro h0 a ha
 obtain ⟨b, off, hA, hc⟩ := hr.at0 h0
 have := h.cell (hc 0 xs[0] (by simp))
 rw [hA] at ha
 injection ha with ha
 rw [← ha]
 exact this
theorem Nc.blk {g : Nat} {t : TypeId} {cs : Array Value} (h : Nc W D) (hb : Blk W g t cs) : g ∉ [D, D + 1] := by
 obtain ⟨⟨ds, h1⟩, r, h2⟩ := h
 intro hm
 simp at hm
 unfold Blk at hb
 rcases hm with rfl | rfl
 ·rw [h1] at hb; cases hb
 ·rw [h2] at hb; cases hb
theorem Nc.own {base size n : Nat} {e : TypeId} {v : Value} {xs : List Value} (h : Nc W D) (ho : W.ownsRow base e size v n xs) : ∀ k, v.ownBlock = some k → k ∉ [D, D + 1] := by
 intro k hk
 rcases ho.2 with ⟨rfl, _⟩ | ⟨g, cap, cur, rfl, _, hh, _⟩
 ·cases hk
 ·injection hk with hk
  subst hk
  exact h.blk (t := e) (cs := cur) hh
theorem Nc.mapAt {κ ν : Type} {b : Nat} {ek : κ → Value} {ev : ν → Value} {m : List (κ × ν)} (h : Nc W D) (hm : MapAt W b ek ev m) : b ∉ [D, D + 1] := by
 obtain ⟨es, clock, hb, _⟩ := hm
 obtain ⟨⟨ds, h1⟩, r, h2⟩ := h
 intro hk
 simp at hk
 rcases hk with rfl | rfl
 ·rw [h1] at hb; cases hb
 ·rw [h2] at hb; cases hb
theorem Fr.loop {S : List Nat} {w : World} (hf : Fr S w W) (hD : w.heap.size ≤ D) (h : Fr [D, D + 1] W W') : Fr S w W' := hf.trans2 h fun x hx => by
 simp at hx
 rcases hx with rfl | rfl <;> right <;> omega
end
theorem leaves_marks {P : Program} {fn : Func} {tmps : Array Value} {R : Ending → World → Prop} (u : FrameMode) (hu : u ≠ .run) : ∀ (ms : List Nat) (W : World), ms.Nodup → (∀ D ∈ ms, W.heap[D]? = some (.deferred (some []))) →
    (∀ W', Fr ms W W' → LeavesIn Fence.wide 0 P fn tmps R [] u W') → LeavesInM Fence.wide 0 P fn tmps R (ms.map markOf) u W
  | [], W, _, _, h => h W (Fr.refl _ _)
  | D :: ms, W, hn, hd, h => by
    obtain ⟨h1, h2⟩ := List.nodup_cons.1 hn
    refine ⟨hu, .inl ⟨D, _, rfl, run_takeDeferred (hd D (by simp)), ?_⟩⟩
    refine leaves_marks u hu ms _ h2 (fun D' hD' => (World.putObj_heap_other (fun e : D' = D => h1 (by rw [← e]; exact hD'))).trans (hd D' (by simp [hD']))) fun W' hf => h W' ?_
    exact (Fr.putObj W (D :: ms) D _ (by simp)).trans (hf.mono (by simp +contextual))

def chunkOf (xs : List Int) (N k : Nat) : List Int := (xs.drop (k * xs.length / N)).take ((k + 1) * xs.length / N - k * xs.length / N)
def chunksOf (xs : List Int) (n : Int) : List (List Int) := (List.range (cutN xs.length n)).map (chunkOf xs (cutN xs.length n))
theorem cut_le {m N k : Nat} (h : k < N) : (k + 1) * m / N ≤ m := Nat.div_le_of_le_mul (Nat.mul_le_mul_right _ h)
theorem cut_lt {m N k : Nat} (hk : k < N) (hN : N ≤ m) : k * m / N < (k + 1) * m / N := by
 have h1 : (k + 1) * m = k * m + m := Nat.succ_mul k m
 have h2 : k * m / N + 1 ≤ (k + 1) * m / N := by
  rw [← Nat.add_div_right _ (by omega : 0 < N), h1]
  exact Nat.div_le_div_right (by omega)
 omega
theorem chunkOf_length {xs : List Int} {N k : Nat} (hk : k < N) : (chunkOf xs N k).length = (k + 1) * xs.length / N - k * xs.length / N := by
 have := cut_le (m := xs.length) hk
 simp [chunkOf]
 omega
theorem Rd.chunk {w : World} {b o c N k : Nat} {xs : List Int} (h : Rd w (.int .i64) (some ⟨b, o, none⟩) c xs) (hk : k < N) (hN : N ≤ xs.length) :
  Rd w (.int .i64) (some ⟨b, o + k * xs.length / N, none⟩) (c - k * xs.length / N) (chunkOf xs N k) := by
 have h1 := cut_le (m := xs.length) hk
 have h2 := cut_lt hk hN
 have hle := h.le
 have h3 := chunkOf_length (xs := xs) hk
 refine ⟨by rw [h3]; exact Nat.sub_le_sub_right (Nat.le_trans h1 hle) _, Nat.le_trans (Nat.sub_le _ _) h.cap, fun h0 => ⟨b, _, rfl, fun j x hx => ?_⟩⟩
 obtain ⟨b', o', he, hc⟩ := h.at0 (Nat.lt_of_lt_of_le (Nat.lt_of_le_of_lt (Nat.zero_le _) hk) hN)
 injection he with he
 injection he with e1 e2
 subst e1 e2
 have hj : xs[k * xs.length / N + j]? = some x := by
  unfold chunkOf at hx
  rw [List.getElem?_take] at hx
  split at hx
  ·rw [List.getElem?_drop] at hx; exact hx
  ·cases hx
 rw [Nat.add_assoc]
 exact hc _ x hj
theorem chunkV_eq {b o c N k : Nat} {xs : List Int} (hk : k < N) : chunkV b o xs.length c N k = .slice (some ⟨b, o + k * xs.length / N, none⟩) (chunkOf xs N k).length (c - k * xs.length / N) := by
 rw [chunkOf_length hk]; rfl
theorem cutN_le (m : Nat) (n : Int) : cutN m n ≤ m := by unfold cutN; omega
theorem chunksOf_length (xs : List Int) (n : Int) : (chunksOf xs n).length = cutN xs.length n := by simp [chunksOf]
theorem chunksOf_get {xs : List Int} {n : Int} {k : Nat} (hk : k < cutN xs.length n) : (chunksOf xs n)[k]? = some (chunkOf xs (cutN xs.length n) k) := by
 simp [chunksOf, hk]
end

end Go.Proofs.YtippadnbngcjlaaGreatDoor
