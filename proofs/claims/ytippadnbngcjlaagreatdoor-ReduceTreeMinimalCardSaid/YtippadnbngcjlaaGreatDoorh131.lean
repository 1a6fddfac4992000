/- Texts of this seat, one behind the other: Chk, Chk2. -/
import Derived.Test.YtippadnbngcjlaaGreatDoorh114
import Derived.Test.YtippadnbngcjlaaGreatDoorh129
namespace Go.Proofs.YtippadnbngcjlaaGreatDoor
set_option linter.unusedVariables false

/- Chunks of the program. -/
section
open Go Go.RowKit
attribute [local go_sem] Oper.semAt_some
section
variable {P : Program} {F : Fence} {nn : Nat} {w : World}
theorem stepIn_append_rd {α : Type} {ops : Array Oper} {o : Oper} {a : Act} {K : Act → World → Prop} {Q : Exit → Act → World → Prop} {E : Prop} (hgd : o.guard = none) (s x : Operand) (t : TypeId)
  (ho : o.op = .call { callee := .builtin .append, args := #[s, x], argTypes := #[t, t] })
  {e : TypeId} {z : Value} {bytes base n : Nat} (E1 : Elem P t e z 1 bytes) (v : Value) (xs : List Value) (hs : a.eval s = v) (hown : w.ownsRow base e 1 v n xs)
  (A : Option Addr) (c : Nat) (news : List α) (enc : α → Value) (hx : a.eval x = .slice A news.length c) (hr : Rd w enc A c news) (h1 : ∀ y, (enc y).oneCell' = true)
  (hb : (n + news.length) * bytes ≤ 140737488355328) (hbase : base ≤ w.heap.size)
  (h : ∀ A' c' w', w'.ownsRow base e 1 (.slice A' (n + news.length) c') (n + news.length) (xs ++ news.map enc) → w.grownBy w' v.ownBlock →
   ((Value.slice A' (n + news.length) c').ownBlock = v.ownBlock ∨ (Value.slice A' (n + news.length) c').ownBlock = some w.heap.size) → K (a.put o.dst (.slice A' (n + news.length) c')) w') :
  if Region.wanted o (yielded ops a.tmps) = true then Oper.wpIn F nn P o a w K Q else E := by
 have hw : Region.wanted o (yielded ops a.tmps) = true := by simp [Region.wanted, hgd]
 rw [if_pos hw]
 obtain ⟨A', c', w', hrun, h2, h3, h5⟩ := run_append_rd (P := P) (ty := o.type) E1 hown hr h1 hb hbase
 unfold Oper.wpIn
 refine ⟨?_, ?_⟩
 ·simp [Oper.about, ho, resolve, Target.leads, Sem.run_pure]
 ·rw [Oper.semAt_plain F _ _ (by rw [ho]; intro c hc'; cases hc')]
  simp only [execOp, ho, resolve, invoke, builtin, Sem.run_bind, Sem.run_pure, Result.andThen_ok, List.map_toArray, List.map_cons, List.map_nil, hs, hx, hrun]
  exact h A' c' w' h2 h3 h5
end
def Rows (W : World) (B : Nat) (v : Value) (L : List (List Int)) : Prop :=
 ∃ (SA : Option Addr) (sc : Nat) (rows : List (Option Addr × Nat × Nat)), v = .slice SA L.length sc ∧ rows.length = L.length ∧ W.ownsRow B 53 1 v L.length (rows.map encSl) ∧ ∀ (j : Nat) (l : List Int), L[j]? = some l → ∃ A c, rows[j]? = some (A, l.length, c) ∧ W.ownsRow B 3 1 (.slice A l.length c) l.length (l.map (.int .i64))
theorem Rows.nil_ (W : World) (B : Nat) : Rows W B (.slice none 0 0) [] := ⟨none, 0, [], rfl, rfl, World.ownsRow_nil W B _ 1, fun j l h => by simp at h⟩
theorem Rows.fr0 {W W' : World} {B : Nat} {v : Value} {L : List (List Int)} (h : Rows W B v L) (hf : Fr [] W W') : Rows W' B v L := by
 obtain ⟨SA, sc, rows, hv, hl, ho, hr⟩ := h
 refine ⟨SA, sc, rows, hv, hl, own_fr ho hf (by simp), fun j l hl => ?_⟩
 obtain ⟨A, c, h1, h2⟩ := hr j l hl
 exact ⟨A, c, h1, own_fr h2 hf (by simp)⟩
theorem Rows.nc {W W' : World} {B D : Nat} {v : Value} {L : List (List Int)} (h : Rows W B v L) (hn : Nc W D) (hf : Fr [D, D + 1] W W') : Rows W' B v L := by
 obtain ⟨SA, sc, rows, hv, hl, ho, hr⟩ := h
 refine ⟨SA, sc, rows, hv, hl, own_fr ho hf (hn.own ho), fun j l hl => ?_⟩
 obtain ⟨A, c, h1, h2⟩ := hr j l hl
 exact ⟨A, c, h1, own_fr h2 hf (hn.own h2)⟩
theorem Rows.snoc {W1 W2 : World} {B g : Nat} {v x : Value} {L : List (List Int)} {A SA : Option Addr} {c sc sn : Nat} {l : List Int} (hb : Blk W1 g 28 #[x])
  (ho : W1.ownsRow B 3 1 (.slice A l.length c) l.length (l.map (.int .i64))) (hl : sn = L.length + 1) {rows : List (Option Addr × Nat × Nat)} (hrows : ∀ (j : Nat) (l : List Int), L[j]? = some l → ∃ A c, rows[j]? = some (A, l.length, c) ∧ W1.ownsRow B 3 1 (.slice A l.length c) l.length (l.map (.int .i64)))
  (hrl : rows.length = L.length) (hown : W1.ownsRow B 53 1 v L.length (rows.map encSl)) (hg : W1.grownBy W2 v.ownBlock)
  (ho2 : W2.ownsRow B 53 1 (.slice SA sn sc) sn (rows.map encSl ++ [(A, l.length, c)].map encSl)) :
  Rows (W2.setCell ⟨g, 0, none⟩ (.slice SA sn sc)) B (.slice SA sn sc) (L ++ [l]) ∧ Blk (W2.setCell ⟨g, 0, none⟩ (.slice SA sn sc)) g 28 #[.slice SA sn sc] ∧
   ∃ S, Fr S W1 (W2.setCell ⟨g, 0, none⟩ (.slice SA sn sc)) ∧ ∀ k ∈ S, k = g ∨ v.ownBlock = some k := by
 subst hl
 have hb2 : Blk W2 g 28 #[x] := hb.grown hg (fun hk => own_ne_blk hown hb (by decide) g hk.symm rfl)
 have hset : Fr [g] W2 (W2.setCell ⟨g, 0, none⟩ (.slice SA (L.length + 1) sc)) := (Fr.refl [g] W2).setCell (.inl (by simp)) _
 refine ⟨⟨SA, sc, rows ++ [(A, l.length, c)], by simp, by simp [hrl], ?_, ?_⟩, by simpa using hb2.set_ 0 _, g :: v.ownBlock.toList, ((Fr.refl _ _).grown hg (fun k hk => .inl (by simp [hk]))).setCell (.inl (by simp)) _, fun k hk => by simpa using hk⟩
 ·have := own_fr ho2 hset (fun k hk => by simpa using own_ne_blk ho2 hb2 (by decide) k hk)
  simpa using this
 ·intro j l' hj
  have key : ∀ {A : Option Addr} {c : Nat} {l : List Int}, W1.ownsRow B 3 1 (.slice A l.length c) l.length (l.map (.int .i64)) → (W2.setCell ⟨g, 0, none⟩ (.slice SA (L.length + 1) sc)).ownsRow B 3 1 (.slice A l.length c) l.length (l.map (.int .i64)) := fun {A c l} ho => by
   have h2 := own_fr ho (frOfGrown hg) (fun k hk hm => own_ne_own ho hown (by decide) k hk (by simpa using hm))
   exact own_fr h2 hset (fun k hk => by simpa using own_ne_blk h2 hb2 (by decide) k hk)
  by_cases hlt : j < L.length
  ·rw [List.getElem?_append_left hlt] at hj
   obtain ⟨A', c', h1, h2⟩ := hrows j l' hj
   exact ⟨A', c', by rw [List.getElem?_append_left (by omega)]; exact h1, key h2⟩
  ·have hj2 := (List.getElem?_eq_some_iff.1 hj).1
   simp at hj2
   obtain rfl : j = L.length := by omega
   simp at hj
   subst hj
   exact ⟨A, c, by rw [← hrl]; simp, key ho⟩
end

/- Chunks of the program: the walk. -/
section
open Go Go.RowKit
attribute [local go_sem] Oper.semAt_some
def RetRows (w : World) (L : List (List Int)) (e : Ending) (w' : World) : Prop := ∃ v, e = .returned v ∧ Fr [] w w' ∧ Rows w' w.heap.size v L
def ChkI (w : World) (A : Option Addr) (c : Nat) (xs : List Int) (L : List (List Int)) (N k : Nat) (W : World) : Prop :=
 Fr [] w W ∧ Blk W (w.heap.size + 1) 53 #[.slice A xs.length c] ∧ Blk W (w.heap.size + 1 + 1) 3 #[.int .i64 N] ∧ ∃ v, Blk W w.heap.size 28 #[v] ∧ Rows W (w.heap.size + 1 + 1 + 1) v (L.take k)
theorem ChkI.fr0 {w W W' : World} {A : Option Addr} {c N k : Nat} {xs : List Int} {L : List (List Int)} (h : ChkI w A c xs L N k W) (hf : Fr [] W W') : ChkI w A c xs L N k W' := by
 obtain ⟨h1, h2, h3, v, h4, h5⟩ := h
 exact ⟨h1.trans hf, h2.fr hf (by simp), h3.fr hf (by simp), v, h4.fr hf (by simp), h5.fr0 hf⟩
theorem ChkI.nc {w W W' : World} {A : Option Addr} {c N k D : Nat} {xs : List Int} {L : List (List Int)} (hD : w.heap.size ≤ D) (h : ChkI w A c xs L N k W) (hn : Nc W D) (hf : Fr [D, D + 1] W W') : ChkI w A c xs L N k W' := by
 obtain ⟨h1, h2, h3, v, h4, h5⟩ := h
 exact ⟨h1.loop hD hf, h2.fr hf (hn.blk h2), h3.fr hf (hn.blk h3), v, h4.fr hf (hn.blk h4), h5.nc hn hf⟩
theorem chk_fin {w W w2 w4 : World} {A A2 A3 SA : Option Addr} {c c2 c3 sc N k D : Nat} {xs l : List Int} {L Lk : List (List Int)} {rows : List (Option Addr × Nat × Nat)} (hF : Fr [] w W) (hI : ChkI w A c xs L N k W) (hk1 : L.take (k + 1) = Lk ++ [l])
  (hn : Nc W D) (hD : w.heap.size ≤ D) (hk : k < N) (hB : Blk W w.heap.size 28 #[.slice SA Lk.length sc]) (hF3 : Fr [] W (w2.alloc (.cells #[.slice A2 l.length c2] 53))) (hf2 : Fr [] W.drew w2) (ho2 : w2.ownsRow W.drew.heap.size 3 1 (.slice A2 l.length c2) l.length (l.map (.int .i64)))
  (hown : W.ownsRow (w.heap.size + 1 + 1 + 1) 53 1 (.slice SA Lk.length sc) Lk.length (rows.map encSl)) (hrows : ∀ (j : Nat) (l : List Int), Lk[j]? = some l → ∃ A c, rows[j]? = some (A, l.length, c) ∧ W.ownsRow (w.heap.size + 1 + 1 + 1) 3 1 (.slice A l.length c) l.length (l.map (.int .i64)))
  (hrl : rows.length = Lk.length) (hg4 : (w2.alloc (.cells #[.slice A2 l.length c2] 53)).grownBy w4 (Value.slice SA Lk.length sc).ownBlock)
  (hown4 : w4.ownsRow (w.heap.size + 1 + 1 + 1) 53 1 (.slice A3 (Lk.length + [(A2, l.length, c2)].length) c3) (Lk.length + [(A2, l.length, c2)].length) (rows.map encSl ++ [(A2, l.length, c2)].map encSl)) :
  w4.cell? ⟨w.heap.size, 0, none⟩ = some (.slice SA Lk.length sc) ∧ w4.frozen? ⟨w.heap.size, 0, none⟩ = false ∧
   (Clear D W (w4.setCell ⟨w.heap.size, 0, none⟩ (.slice A3 (Lk.length + 1) c3)) ∧ (k + 1 ≤ N ∧ ChkI w A c xs L N (k + 1) (w4.setCell ⟨w.heap.size, 0, none⟩ (.slice A3 (Lk.length + 1) c3)))) := by
 have hBW : w.heap.size + 1 + 1 + 1 ≤ W.drew.heap.size := hI.2.2.1.lt
 have hB3 := hB.fr hF3 (by simp)
 have hO3 := own_fr hown hF3 (by simp)
 have hB4 := hB3.grown hg4 (fun hk => own_ne_blk hO3 hB3 (by decide) w.heap.size hk.symm rfl)
 obtain ⟨h1, h2, S, h3, h4⟩ := Rows.snoc (v := .slice SA Lk.length sc) (L := Lk) (sn := Lk.length + 1) hB3 (own_base (ho2.alloc _) hBW) rfl (fun j l hj => by
  obtain ⟨A', c', h1, h2⟩ := hrows j l hj
  exact ⟨A', c', h1, own_fr h2 hF3 (by simp)⟩) hrl hO3 hg4 hown4
 have hS : ∀ k ∈ S, k ∉ [D, D + 1] := fun j hj => by
  rcases h4 j hj with rfl | hb
  ·exact hn.blk hB
  ·exact hn.own hown j hb
 have hbl : ∀ {g t cs}, Blk W g t cs → g ≠ w.heap.size → g < w.heap.size + 1 + 1 + 1 → Blk (w4.setCell ⟨w.heap.size, 0, none⟩ (.slice A3 (Lk.length + 1) c3)) g t cs := fun {g t cs} hb hg ht => (hb.fr hF3 (by simp)).fr h3 fun hm => by
  rcases h4 _ hm with h | h
  ·exact hg h
  ·have := (hown.lt g h).1; omega
 obtain ⟨i1, i2, i3, _⟩ := hI
 refine ⟨hB4.cell 0 rfl, hB4.frozen 0, ⟨S, (hF3.mono (by simp)).trans h3, fun h => hS _ h (by simp), fun h => hS _ h (by simp)⟩, hk, (hF.trans hF3).trans2 h3 ?_, hbl i2 (by omega) (by omega), hbl i3 (by omega) (by omega), _, h2, by rw [hk1]; exact h1⟩
 intro x hx
 rcases h4 x hx with rfl | h
 ·exact .inr (Nat.le_refl _)
 ·have := (hown.lt x h).1; exact .inr (by omega)
theorem Rows.base {W : World} {B B' : Nat} {v : Value} {L : List (List Int)} (h : Rows W B v L) (hb : B' ≤ B) : Rows W B' v L := by
 obtain ⟨SA, sc, rows, hv, hl, ho, hr⟩ := h
 refine ⟨SA, sc, rows, hv, hl, own_base ho hb, fun j l hl => ?_⟩
 obtain ⟨A, c, h1, h2⟩ := hr j l hl
 exact ⟨A, c, h1, own_base h2 hb⟩
theorem own_nd {W : World} {D base size n : Nat} {e : TypeId} {v : Value} {xs : List Value} {ds : Option (List Deferred)} (hd : W.heap[D]? = some (.deferred ds)) (ho : W.ownsRow base e size v n xs) : ∀ k, v.ownBlock = some k → k ∉ [D] := by
 intro k hk hm
 obtain rfl : k = D := by simpa using hm
 rcases ho.2 with ⟨rfl, _⟩ | ⟨g, cap, cur, rfl, _, hh, _⟩
 ·cases hk
 ·injection hk with hk
  subst hk
  rw [hd] at hh
  cases hh
theorem Rows.nc1 {W W' : World} {B D : Nat} {v : Value} {L : List (List Int)} {ds : Option (List Deferred)} (h : Rows W B v L) (hd : W.heap[D]? = some (.deferred ds)) (hf : Fr [D] W W') : Rows W' B v L := by
 obtain ⟨SA, sc, rows, hv, hl, ho, hr⟩ := h
 refine ⟨SA, sc, rows, hv, hl, own_fr ho hf (own_nd hd ho), fun j l hl => ?_⟩
 obtain ⟨A, c, h1, h2⟩ := hr j l hl
 exact ⟨A, c, h1, own_fr h2 hf (own_nd hd h2)⟩
set_option maxHeartbeats 1600000 in
theorem Chunks_any (A : Option Addr) (c : Nat) (xs : List Int) (n : Int) (w : World) (ha : Rd w (.int .i64) A c xs) (hlen : xs.length ≤ 1000000) :
  Calls Tryz.prog 52 #[.slice A xs.length c, .int .i64 n] w (RetRows w (chunksOf xs n)) := by
 have hcb := ha.capBound
 have hmo : Tryz.prog.follows .mixedOrders = true := by kernel_rfl
 have hNm := cutN_le xs.length n
 have HL := Lib.hid (chunksOf_length xs n)
 have HG : Hid (∀ k, k < cutN xs.length n → (chunksOf xs n)[k]? = some (chunkOf xs (cutN xs.length n) k)) := fun k hk => chunksOf_get hk
 generalize chunksOf xs n = L at *
 obtain ⟨b0, o0, hA⟩ : ∃ b0 o0, 0 < cutN xs.length n → A = some ⟨b0, o0, none⟩ := by
  by_cases h0 : 0 < xs.length
  ·obtain ⟨b, o, h, _⟩ := ha.at0 h0
   exact ⟨b, o, fun _ => h⟩
  ·exact ⟨0, 0, fun h => by omega⟩
 refine calls_of_wpR Tryz.func52 rfl ?_
 simp only [Tryz.ntmps52, List.size_toArray, List.length_cons, List.length_nil, Nat.reduceAdd, Nat.reduceSub, Array.replicate_succ, Array.replicate_zero, List.push_toArray, List.append_toArray, List.nil_append, List.cons_append]
 refine wpR_seq (wpR_of_wp ?_)
 go_wp2
 refine wpR_seq (wpR_of_wp ?_)
 go_wp2
 refine wpR_seq (wpR_seq (wpR_of_wp ?_))
 go_wp2_with fail
 refine (cuts_any A c xs.length n _ hlen).mono ?_
 rintro e w1 ⟨rfl, rfl⟩
 go_wp2
 generalize cutN xs.length n = N at *
 refine wpR_block ?_
 obtain ⟨W1, hW1⟩ : ∃ W1, W1 = ((w.alloc (.cells #[.slice none 0 0] 28)).alloc (.cells #[.slice A xs.length c] 53)).alloc (.cells #[.int .i64 N] 3) := ⟨_, rfl⟩
 have hz1 : W1.heap.size = w.heap.size + 1 + 1 + 1 := by rw [hW1]; simp
 have hI1 : ChkI w A c xs L N 0 W1 := by
  rw [hW1]
  refine ⟨(((Fr.refl _ _).alloc _).alloc _).alloc _, (Blk.new _ _ _ _ (by simp)).alloc _, Blk.new _ _ _ _ (by simp), .slice none 0 0, ((Blk.new w _ _ _ rfl).alloc _).alloc _, ?_⟩
  exact Rows.nil_ _ _
 have hW : ((w.alloc (.cells #[.slice none 0 0] 28)).alloc (.cells #[.slice A xs.length c] 53)).alloc (.cells #[.int .i64 N] 3) = W1 := hW1.symm
 clear hW1
 have hent : ∀ args w, (callFunc 88 args).run Tryz.prog w = .ok (.enter 88 args) w := fun args w => by simp [go_sem]
 have hg := cuts_gives (w.heap.size + 1) b0 o0 xs.length c N A hA hlen hNm ha.le hcb
 try rw [hW]
 refine wpR_rangeFunc 10 rfl rfl hent hg (fun k W => k ≤ N ∧ ChkI w A c xs L N k W) (fun _ _ => False) (fun _ _ => False) W1.heap.size rfl
  (fun k W W' h hn hf => ⟨h.1, h.2.nc (by omega) hn hf⟩) (fun _ _ _ h => h.elim) (fun k W h => ⟨h.2.2.1.cell 0 rfl, h.2.2.2.1.cell 0 rfl⟩) (fun W hf hs => ⟨Nat.zero_le _, hI1.fr0 hf⟩)
  (fun k => { tmps := #[.slice A xs.length c, .int .i64 n, undef, undef, .slice none 0 0, .pointer (some ⟨w.heap.size, 0, none⟩), chunkV b0 o0 xs.length c N k, .slice A xs.length c, .int .i64 n,
   .func (.func 88) #[] #[.pointer (some ⟨w.heap.size + 1 + 1, 0, none⟩), .pointer (some ⟨w.heap.size + 1, 0, none⟩)], chunkV b0 o0 xs.length c N k, undef, undef, undef, undef, undef, undef], defers := [] })
  ?assign ?body ?done (fun _ _ h => h.elim) (fun _ _ h => h.elim)
 case assign =>
  intro l k W K hK
  gi_wp2
  exact hK
 case body =>
  rintro k W hk ⟨_, hI⟩ hn
  obtain ⟨hF, hB1, hB2, v, hB, hR⟩ := id hI
  obtain rfl := hA (by omega)
  have hch := Lib.hid (chunkV_eq (b := b0) (o := o0) (c := c) (N := N) (xs := xs) hk)
  have hrc := (ha.fr0 hF).chunk hk hNm
  have hcl : (chunkOf xs N k).length ≤ 1000000 := by unfold chunkOf; rw [List.length_take, List.length_drop]; exact Nat.le_trans (Nat.min_le_right _ _) (Nat.le_trans (Nat.sub_le _ _) hlen)
  rw [hch.out]
  have hlk := Lib.hid (HG.out k hk)
  generalize chunkOf xs N k = l at *
  have HK1 : Hid (L.take (k + 1) = L.take k ++ [l]) := by show _ = _; rw [List.take_add_one, hlk.out]; rfl
  have hbB : ((L.take k).length + 1) * 24 ≤ 140737488355328 := by rw [List.length_take]; have := HL.out; omega
  have HI := Lib.hid hI
  clear hI
  generalize L.take k = Lk at *
  obtain ⟨SA, sc, rows, rfl, hrl, hown, hrows⟩ := hR
  have HO := Lib.hid hown
  have HR := Lib.hid hrows
  clear hown hrows
  have e5 := hB.cell 0 rfl
  have f5 := hB.frozen 0
  gi_wp2
  refine wpIn_region_any hmo ?_
  try (change wpAnyIn _ _ _ _ _ _ _ _ _ (World.drew _))
  refine wpAnyIn_ready (rs := [0, 1]) (by kernel_rfl) (by simp) ?_
  refine AllReadyIn.cons rfl (fun K hK => ?_) (AllReadyIn.cons rfl (fun K hK => ?_) AllReadyIn.nil)
  ·go_simp
   refine hK _ _ ?_; clear hK K
   refine wpAnyIn_ready (rs := [1]) (by kernel_rfl) (by simp) ?_
   refine AllReadyIn.cons rfl (fun K hK => ?_) AllReadyIn.nil
   go_simp
   refine hK _ _ ?_; clear hK K
   refine wpAnyIn_ready (rs := [2]) (by kernel_rfl) (by simp) ?_
   refine AllReadyIn.cons rfl (fun K hK => ?_) AllReadyIn.nil
   go_simp
   refine ⟨trivial, rfl, (CallsIn.inRound _ (callsIn_wide.2 (fresh_any _ _ l _ hrc.drew hcl))).mono ?_⟩
   simp only [RetOwn, List.length_map]
   rintro e w2 ⟨A2, c2, rfl, hf2, ho2⟩
   have e6 := (hB.fr (((Fr.refl _ W).drew).trans hf2) (by simp)).cell 0 rfl
   have e7 := ((hB.fr (((Fr.refl _ W).drew).trans hf2) (by simp)).alloc (.cells #[.slice A2 l.length c2] 53)).cell 0 rfl
   refine hK _ _ ?_; clear hK K
   refine wpAnyIn_ready (rs := [3]) (by kernel_rfl) (by simp) ?_
   refine AllReadyIn.cons rfl (fun K hK => ?_) AllReadyIn.nil
   go_simp
   refine hK _ _ ?_; clear hK K
   have hF3 : Fr [] W (w2.alloc (.cells #[.slice A2 l.length c2] 53)) := (((Fr.refl _ W).drew).trans hf2).alloc _
   refine wpAnyIn_ready (rs := [4]) (by kernel_rfl) (by simp) ?_
   refine AllReadyIn.cons rfl (fun K hK => ?_) AllReadyIn.nil
   refine stepIn_append_rd rfl (.tmp 11) (.tmp 14) _ rfl elemSl (.slice SA Lk.length sc) (rows.map encSl) rfl (own_fr HO.out hF3 (by simp)) (some ⟨w2.heap.size, 0, none⟩) 1 [(A2, l.length, c2)] encSl rfl (Rd.one w2 53 encSl (A2, l.length, c2)) (fun _ => rfl) hbB (Nat.le_trans hB2.lt hF3.size) ?_
   intro A3 c3 w4 hown4 hg4 hat4
   obtain ⟨e8, f8, hfin⟩ := chk_fin hF HI.out HK1.out hn (by omega) hk hB hF3 hf2 ho2 HO.out HR.out hrl hg4 hown4
   refine hK _ _ ?_; clear hK K
   refine wpAnyIn_ready (rs := [5]) (by kernel_rfl) (by simp) ?_
   refine AllReadyIn.cons rfl (fun K hK => ?_) AllReadyIn.nil
   go_simp
   refine hK _ _ ?_; clear hK K
   refine wpAnyIn_done (by kernel_rfl) ?_ _
   exact hfin
  ·go_simp
   refine hK _ _ ?_; clear hK K
   refine wpAnyIn_ready (rs := [0, 2]) (by kernel_rfl) (by simp) ?_
   refine AllReadyIn.cons rfl (fun K hK => ?_) (AllReadyIn.cons rfl (fun K hK => ?_) AllReadyIn.nil)
   ·go_simp
    refine hK _ _ ?_; clear hK K
    refine wpAnyIn_ready (rs := [2]) (by kernel_rfl) (by simp) ?_
    refine AllReadyIn.cons rfl (fun K hK => ?_) AllReadyIn.nil
    go_simp
    refine ⟨trivial, rfl, (CallsIn.inRound _ (callsIn_wide.2 (fresh_any _ _ l _ hrc.drew hcl))).mono ?_⟩
    simp only [RetOwn, List.length_map]
    rintro e w2 ⟨A2, c2, rfl, hf2, ho2⟩
    have e6 := (hB.fr (((Fr.refl _ W).drew).trans hf2) (by simp)).cell 0 rfl
    have e7 := ((hB.fr (((Fr.refl _ W).drew).trans hf2) (by simp)).alloc (.cells #[.slice A2 l.length c2] 53)).cell 0 rfl
    refine hK _ _ ?_; clear hK K
    refine wpAnyIn_ready (rs := [3]) (by kernel_rfl) (by simp) ?_
    refine AllReadyIn.cons rfl (fun K hK => ?_) AllReadyIn.nil
    go_simp
    refine hK _ _ ?_; clear hK K
    have hF3 : Fr [] W (w2.alloc (.cells #[.slice A2 l.length c2] 53)) := (((Fr.refl _ W).drew).trans hf2).alloc _
    refine wpAnyIn_ready (rs := [4]) (by kernel_rfl) (by simp) ?_
    refine AllReadyIn.cons rfl (fun K hK => ?_) AllReadyIn.nil
    refine stepIn_append_rd rfl (.tmp 11) (.tmp 14) _ rfl elemSl (.slice SA Lk.length sc) (rows.map encSl) rfl (own_fr HO.out hF3 (by simp)) (some ⟨w2.heap.size, 0, none⟩) 1 [(A2, l.length, c2)] encSl rfl (Rd.one w2 53 encSl (A2, l.length, c2)) (fun _ => rfl) hbB (Nat.le_trans hB2.lt hF3.size) ?_
    intro A3 c3 w4 hown4 hg4 hat4
    obtain ⟨e8, f8, hfin⟩ := chk_fin hF HI.out HK1.out hn (by omega) hk hB hF3 hf2 ho2 HO.out HR.out hrl hg4 hown4
    refine hK _ _ ?_; clear hK K
    refine wpAnyIn_ready (rs := [5]) (by kernel_rfl) (by simp) ?_
    refine AllReadyIn.cons rfl (fun K hK => ?_) AllReadyIn.nil
    go_simp
    refine hK _ _ ?_; clear hK K
    refine wpAnyIn_done (by kernel_rfl) ?_ _
    exact hfin
   ·go_simp
    refine ⟨trivial, rfl, (CallsIn.inRound _ (callsIn_wide.2 (fresh_any _ _ l _ hrc.drew hcl))).mono ?_⟩
    simp only [RetOwn, List.length_map]
    rintro e w2 ⟨A2, c2, rfl, hf2, ho2⟩
    have e6 := (hB.fr (((Fr.refl _ W).drew).trans hf2) (by simp)).cell 0 rfl
    have e7 := ((hB.fr (((Fr.refl _ W).drew).trans hf2) (by simp)).alloc (.cells #[.slice A2 l.length c2] 53)).cell 0 rfl
    refine hK _ _ ?_; clear hK K
    refine wpAnyIn_ready (rs := [0, 3]) (by kernel_rfl) (by simp) ?_
    refine AllReadyIn.cons rfl (fun K hK => ?_) (AllReadyIn.cons rfl (fun K hK => ?_) AllReadyIn.nil)
    ·go_simp
     refine hK _ _ ?_; clear hK K
     refine wpAnyIn_ready (rs := [3]) (by kernel_rfl) (by simp) ?_
     refine AllReadyIn.cons rfl (fun K hK => ?_) AllReadyIn.nil
     go_simp
     refine hK _ _ ?_; clear hK K
     have hF3 : Fr [] W (w2.alloc (.cells #[.slice A2 l.length c2] 53)) := (((Fr.refl _ W).drew).trans hf2).alloc _
     refine wpAnyIn_ready (rs := [4]) (by kernel_rfl) (by simp) ?_
     refine AllReadyIn.cons rfl (fun K hK => ?_) AllReadyIn.nil
     refine stepIn_append_rd rfl (.tmp 11) (.tmp 14) _ rfl elemSl (.slice SA Lk.length sc) (rows.map encSl) rfl (own_fr HO.out hF3 (by simp)) (some ⟨w2.heap.size, 0, none⟩) 1 [(A2, l.length, c2)] encSl rfl (Rd.one w2 53 encSl (A2, l.length, c2)) (fun _ => rfl) hbB (Nat.le_trans hB2.lt hF3.size) ?_
     intro A3 c3 w4 hown4 hg4 hat4
     obtain ⟨e8, f8, hfin⟩ := chk_fin hF HI.out HK1.out hn (by omega) hk hB hF3 hf2 ho2 HO.out HR.out hrl hg4 hown4
     refine hK _ _ ?_; clear hK K
     refine wpAnyIn_ready (rs := [5]) (by kernel_rfl) (by simp) ?_
     refine AllReadyIn.cons rfl (fun K hK => ?_) AllReadyIn.nil
     go_simp
     refine hK _ _ ?_; clear hK K
     refine wpAnyIn_done (by kernel_rfl) ?_ _
     exact hfin
    ·go_simp
     refine hK _ _ ?_; clear hK K
     refine wpAnyIn_ready (rs := [0]) (by kernel_rfl) (by simp) ?_
     refine AllReadyIn.cons rfl (fun K hK => ?_) AllReadyIn.nil
     go_simp
     refine hK _ _ ?_; clear hK K
     have hF3 : Fr [] W (w2.alloc (.cells #[.slice A2 l.length c2] 53)) := (((Fr.refl _ W).drew).trans hf2).alloc _
     refine wpAnyIn_ready (rs := [4]) (by kernel_rfl) (by simp) ?_
     refine AllReadyIn.cons rfl (fun K hK => ?_) AllReadyIn.nil
     refine stepIn_append_rd rfl (.tmp 11) (.tmp 14) _ rfl elemSl (.slice SA Lk.length sc) (rows.map encSl) rfl (own_fr HO.out hF3 (by simp)) (some ⟨w2.heap.size, 0, none⟩) 1 [(A2, l.length, c2)] encSl rfl (Rd.one w2 53 encSl (A2, l.length, c2)) (fun _ => rfl) hbB (Nat.le_trans hB2.lt hF3.size) ?_
     intro A3 c3 w4 hown4 hg4 hat4
     obtain ⟨e8, f8, hfin⟩ := chk_fin hF HI.out HK1.out hn (by omega) hk hB hF3 hf2 ho2 HO.out HR.out hrl hg4 hown4
     refine hK _ _ ?_; clear hK K
     refine wpAnyIn_ready (rs := [5]) (by kernel_rfl) (by simp) ?_
     refine AllReadyIn.cons rfl (fun K hK => ?_) AllReadyIn.nil
     go_simp
     refine hK _ _ ?_; clear hK K
     refine wpAnyIn_done (by kernel_rfl) ?_ _
     exact hfin
 case done =>
  rintro W ⟨_, hF, hB1, hB2, v, hB, hR⟩ hk
  have e5 := hB.cell 0 rfl
  show wpR _ _ _ _ _
  refine wpR_seq (wpR_of_wp ?_)
  go_wp2
  refine wpR_of_wp ?_
  go_wp2
  rw [hz1] at hk
  refine leaves_marks .returning (by simp) [w.heap.size + 1 + 1 + 1] W (by simp) (by simpa using hk) fun W' hf' => ?_
  have hnc := (Rows.nc1 hR hk hf')
  exact ⟨_, results_tmp rfl _ _ _, v, rfl, hF.trans2 hf' (by simp; omega), by rw [List.take_of_length_le (Nat.le_of_eq HL.out)] at hnc; exact hnc.base (by omega)⟩
end

end Go.Proofs.YtippadnbngcjlaaGreatDoor
