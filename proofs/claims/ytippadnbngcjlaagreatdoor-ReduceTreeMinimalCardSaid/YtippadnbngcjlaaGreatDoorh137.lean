/- Texts of this seat, one behind the other: FailT. -/
import Derived.Test.YtippadnbngcjlaaGreatDoorh128
import Derived.Test.YtippadnbngcjlaaGreatDoorh134
import Derived.Test.YtippadnbngcjlaaGreatDoorh111
namespace Go.Proofs.YtippadnbngcjlaaGreatDoor
set_option linter.unusedVariables false

/- treeFails: a tree is asked by its text. -/
section
open Go.RowKit
set_option maxRecDepth 20000 in
set_option maxHeartbeats 1600000 in
theorem treeFails_any (A : Option Addr) (c : Nat) (g : List Ru) (s km : Nat) (q : T) (n : Nat) (S : Nat → Prop) (D : Option Addr) (d : Nat) (w : World) (ha : RRu w A c g) (hq : RH S n w D d q) (hval : Val g q) (hlong : (textL g q).length ≤ 1000000)
  (hs : s < w.heap.size) (hkm : km < w.heap.size) (R : Ending → World → Prop)
  (hon : ∀ w2, Fr [] w w2 → Calls Tryz.prog 57 #[.pointer (some ⟨s, 0, none⟩), bsVal (textL g q), .agg #[.int .i64 q.kind, .string q.text, .slice D q.slots.length d]] w2 fun e w' => (∃ v : Int, e = .returned (.int .u8 v) ∧ Fr [s, km] w2 w' ∧ R (.returned (.bool (v == 2))) w') ∨ ∃ ch, e = .panicked ch ∧ R (.panicked ch) w') :
  Calls Tryz.prog 29 #[.pointer (some ⟨s, 0, none⟩), .agg #[.slice A g.length c], .agg (tcells q D d)] w R := by
 obtain ⟨W, hW⟩ : ∃ W, W = (w.alloc (.cells #[.slice A g.length c] 24)).alloc (.cells #[.int .i64 q.kind, .string q.text, .slice D q.slots.length d] 27) := ⟨_, rfl⟩
 have hF : Fr [] w W := by rw [hW]; exact frx
 have hB1 : Blk W w.heap.size 24 #[.slice A g.length c] := by rw [hW]; exact (Blk.new w _ _ _ rfl).alloc _
 have hB2 : Blk W (w.heap.size + 1) 27 #[.int .i64 q.kind, .string q.text, .slice D q.slots.length d] := by rw [hW]; exact Blk.new _ _ _ _ (by simp)
 have q0 : W.cell? ⟨w.heap.size, 0, none⟩ = some (.slice A g.length c) := hB1.cell 0 rfl
 have p0 : W.cell? ⟨w.heap.size + 1, 0, none⟩ = some (.int .i64 q.kind) := hB2.cell 0 rfl
 have p1 : W.cell? ⟨w.heap.size + 1, 1, none⟩ = some (.string q.text) := hB2.cell 1 rfl
 have p2 : W.cell? ⟨w.heap.size + 1, 2, none⟩ = some (.slice D q.slots.length d) := hB2.cell 2 rfl
 have HON := Lib.hid hon
 have HW := Lib.hid hW.symm
 clear hW hon
 go_enter Tryz.func29, Tryz.ntmps29
 go_wp2_with fail
 rw [HW.out]
 refine wp_region_held_drew (S := fun w' => w'.cell? ⟨w.heap.size, 0, none⟩ = some (.slice A g.length c) ∧ w'.cell? ⟨w.heap.size + 1, 0, none⟩ = some (.int .i64 q.kind) ∧ w'.cell? ⟨w.heap.size + 1, 1, none⟩ = some (.string q.text) ∧ w'.cell? ⟨w.heap.size + 1, 2, none⟩ = some (.slice D q.slots.length d)) (by kernel_rfl) ⟨q0, p0, p1, p2⟩ (fun hHeld => ?_)
 refine wpAnyH_take (i := 0) (v := .pointer (some ⟨s, 0, none⟩)) rfl (by kernel_rfl) (by kernel_rfl) (by kernel_rfl) (fun _ _ _ h => h) (Or.inl ⟨by rfl, fun w hSw => ?_⟩) (by assumption) ?_
 ·(try dsimp only at hSw); go_simp
 try simp only [List.getElem_toArray, List.getElem_cons_succ, List.getElem_cons_zero, Act.put, List.setIfInBounds_toArray, List.set_cons_zero, List.set_cons_succ]
 refine wpAnyH_take (i := 1) (v := .agg #[.slice A g.length c]) rfl (by kernel_rfl) (by kernel_rfl) (by kernel_rfl) (fun _ _ _ h => h) (Or.inl ⟨by rfl, fun w hSw => ?_⟩) (by assumption) ?_
 ·(try dsimp only at hSw); go_simp
 try simp only [List.getElem_toArray, List.getElem_cons_succ, List.getElem_cons_zero, Act.put, List.setIfInBounds_toArray, List.set_cons_zero, List.set_cons_succ]
 refine wpAnyH_take (i := 2) (v := .agg #[.int .i64 q.kind, .string q.text, .slice D q.slots.length d]) rfl (by kernel_rfl) (by kernel_rfl) (by kernel_rfl) (fun _ _ _ h => h) (Or.inl ⟨by rfl, fun w hSw => ?_⟩) (by assumption) ?_
 ·(try dsimp only at hSw); go_simp
 try simp only [List.getElem_toArray, List.getElem_cons_succ, List.getElem_cons_zero, Act.put, List.setIfInBounds_toArray, List.set_cons_zero, List.set_cons_succ]
 refine wpAnyH_take (i := 4) (v := .agg #[.int .i64 q.kind, .string q.text, .slice D q.slots.length d]) rfl (by kernel_rfl) (by kernel_rfl) (by kernel_rfl) (fun _ _ _ h => h) (Or.inl ⟨by rfl, fun w hSw => ?_⟩) (by assumption) ?_
 ·(try dsimp only at hSw); go_simp
 try simp only [List.getElem_toArray, List.getElem_cons_succ, List.getElem_cons_zero, Act.put, List.setIfInBounds_toArray, List.set_cons_zero, List.set_cons_succ]
 refine wpAnyH_ready (rs := [3]) (by kernel_rfl) (by simp) ?_
 refine AllReadyH.cons rfl (fun K hK => ?_) AllReadyH.nil
 go_simp
 refine (text_any A c g n q _ S _ (ha.fr0 (hF.trans frx)) ⟨D, d, rfl, hq.fr0 (hF.trans frx)⟩ hval hlong).mono ?_
 rintro e wa ⟨rfl, hfa⟩
 have hFa : Fr [] W wa := (Fr.trans frx hfa)
 refine hK.out _ _ ⟨hFa.cell q0 (by simp), hFa.cell p0 (by simp), hFa.cell p1 (by simp), hFa.cell p2 (by simp)⟩ (fun hHeld2 => ?_)
 clear hK K
 try simp only [List.getElem_toArray, List.getElem_cons_succ, List.getElem_cons_zero, Act.put, List.setIfInBounds_toArray, List.set_cons_zero, List.set_cons_succ]
 refine wpAnyH_ready (rs := [5]) (by kernel_rfl) (by simp) ?_
 refine AllReadyH.cons rfl (fun K hK => ?_) AllReadyH.nil
 go_simp
 refine (HON.out wa (hF.trans hFa)).mono ?_
 have hzw := (hF.trans hFa).size
 rintro e wb (⟨v, rfl, hf8, hR⟩ | ⟨ch, rfl, hR⟩)
 ·refine hK.out _ _ ⟨hf8.cell (hFa.cell q0 (by simp)) (by simp; omega), hf8.cell (hFa.cell p0 (by simp)) (by simp; omega), hf8.cell (hFa.cell p1 (by simp)) (by simp; omega), hf8.cell (hFa.cell p2 (by simp)) (by simp; omega)⟩ (fun hHeld3 => ?_)
  clear hK K hHeld hHeld2
  try simp only [List.getElem_toArray, List.getElem_cons_succ, List.getElem_cons_zero, Act.put, List.setIfInBounds_toArray, List.set_cons_zero, List.set_cons_succ]
  refine wpAnyH_take (i := 6) (v := .bool (v == 2)) rfl (by kernel_rfl) (by kernel_rfl) (by kernel_rfl) (fun _ _ _ h => h) (Or.inl ⟨by rfl, fun w hSw => ?_⟩) (by assumption) ?_
  ·(try dsimp only at hSw); go_simp
  try simp only [List.getElem_toArray, List.getElem_cons_succ, List.getElem_cons_zero, Act.put, List.setIfInBounds_toArray, List.set_cons_zero, List.set_cons_succ]
  refine wpAnyH_take (i := 7) (v := .bool (v == 2)) rfl (by kernel_rfl) (by kernel_rfl) (by kernel_rfl) (fun _ _ _ h => h) (Or.inl ⟨by rfl, fun w hSw => ?_⟩) (by assumption) ?_
  ·(try dsimp only at hSw); go_simp
  try simp only [List.getElem_toArray, List.getElem_cons_succ, List.getElem_cons_zero, Act.put, List.setIfInBounds_toArray, List.set_cons_zero, List.set_cons_succ]
  refine wpAnyH_done (by kernel_rfl) ?_ _
  go_wp2
  exact hR
 ·exact ⟨rfl, hR⟩
def FailsGotT (w : World) (s km : Nat) (ans : List Int) (b : Bool) (used : Nat) (kn : KnT) (e : Ending) (w' : World) : Prop :=
 e = .returned (.bool b) ∧ Fr [s, km] w w' ∧ SKT w' s km ans used kn
theorem tf_got (A : Option Addr) (c : Nat) (g : List Ru) (s km : Nat) (ans : List Int) (used : Nat) (kn : KnT) (q : T) (n : Nat) (S : Nat → Prop) (D : Option Addr) (d : Nat) (w : World) (h : SKT w s km ans used kn) (ha : RRu w A c g) (hq : RH S n w D d q) (hval : Val g q) (hlong : (textL g q).length ≤ 1000000)
  {v : Int} {u : Nat} {kn' : KnT} (hv : askVT ans used kn (textL g q) = some (v, u, kn')) :
  Calls Tryz.prog 29 #[.pointer (some ⟨s, 0, none⟩), .agg #[.slice A g.length c], .agg (tcells q D d)] w (FailsGotT w s km ans (v == 2) u kn') :=
 treeFails_any A c g s km q n S D d w ha hq hval hlong h.lt.1 h.lt.2 _ fun w2 hf => (once_gotT s km ans used kn _ q D d w2 (h.fr0 hf) hv).mono fun e w3 ⟨he, hf3, hs3⟩ => .inl ⟨v, he, hf3, rfl, (hf.mono (by simp)).trans hf3, hs3⟩
theorem tf_ask (A : Option Addr) (c : Nat) (g : List Ru) (s km : Nat) (ans : List Int) (used : Nat) (kn : KnT) (q : T) (n : Nat) (S : Nat → Prop) (D : Option Addr) (d : Nat) (w : World) (h : SKT w s km ans used kn) (ha : RRu w A c g) (hq : RH S n w D d q) (hval : Val g q) (hlong : (textL g q).length ≤ 1000000)
  (hv : askVT ans used kn (textL g q) = none) :
  Calls Tryz.prog 29 #[.pointer (some ⟨s, 0, none⟩), .agg #[.slice A g.length c], .agg (tcells q D d)] w (NextAskT w q D d) :=
 treeFails_any A c g s km q n S D d w ha hq hval hlong h.lt.1 h.lt.2 _ fun w2 hf => (once_askT s km ans used kn _ q D d w2 (h.fr0 hf) hv).mono fun e w3 ⟨he, hf3⟩ => .inr ⟨_, he, rfl, hf.trans hf3⟩
end

end Go.Proofs.YtippadnbngcjlaaGreatDoor
