/- Words for the walk of ref07.Sum. Conditions: each lemma names its own. -/
import Derived.StillTail
import Derived.StillTailTactics
import Derived.Test.YtllnocffmlagjaaR4
import Derived.Test.YtllnocffmlagjaaR5
import Derived.Test.YtllnocffmlagjaaH3
set_option linter.unusedVariables false
namespace Go.Proofs.Ytllnocffmlagjaa
open Go.RowKit
attribute [local go_sem] flowAt flowUpon v32_xor v32_or v32_and v32_not v32_add v32_addm v32_div8 v32_div1024 u32_unsigned

theorem inf73 (n : Nat) (h : n = 8) : (Try.prog.info? 73).map (·.size) = some n := by subst h; kernel_rfl
/-- an array of n words of which the first are l -/
def arrP (n : Nat) (l : List UInt32) : Array Value := (wv l ++ List.replicate (n - l.length) (Value.int .u32 0)).toArray
theorem arrP_push (n : Nat) (l : List UInt32) (x : UInt32) (h : l.length < n) : (arrP n l).setIfInBounds l.length (.int .u32 (V32 x)) = arrP n (l ++ [x]) := by
  unfold arrP wv
  rw [List.setIfInBounds_toArray]
  congr 1
  have e : n - l.length = (n - (l ++ [x]).length) + 1 := by simp; omega
  rw [e, List.replicate_succ, List.map_append]
  simp
theorem arrP_size (n : Nat) (l : List UInt32) (h : l.length ≤ n) : (arrP n l).size = n := by simp [arrP, wv]; omega
theorem arrP_full (l : List UInt32) : arrP l.length l = arr8 l := by simp [arrP, arr8]
theorem arrP_one (n : Nat) (l : List UInt32) : ∀ u ∈ (arrP n l).toList, u.oneCell' = true := by
  intro u hu
  simp only [arrP, wv, List.mem_append, List.mem_map, List.mem_replicate] at hu
  rcases hu with ⟨x, _, rfl⟩ | ⟨_, rfl⟩ <;> rfl
theorem take_snocU (l : List UInt32) (k : Nat) (h : k < l.length) : l.take k ++ [l.getD k 0] = l.take (k + 1) := by
  rw [List.take_succ_eq_append_getElem h, List.getD_eq_getElem?_getD, List.getElem?_eq_getElem h]; rfl

/-- The constants' loop: k of the first, the first 8 of them for the state. -/
structure KH (w : World) (k : Nat) (W : World) : Prop where
  ks : W.heap[w.heap.size]? = some (.cells (arrP 64 (kc.take k)) 80 (0, 0))
  hs : W.heap[w.heap.size + 1]? = some (.cells (arrP 8 (hc.take k)) 73 (0, 0))
  below : Below w.heap.size w W
theorem KH.later {w W W' : World} {k : Nat} (h : KH w k W) (hb : Below W.heap.size W W') : KH w k W' :=
  ⟨lives_block _ _ _ _ h.ks hb, lives_block _ _ _ _ h.hs hb, below_then h.below h.below.size hb⟩
theorem KH.setK {w W : World} {k : Nat} (h : KH w k W) (hk : k < 64) : (W.setCell ⟨w.heap.size, k, none⟩ (.int .u32 (V32 (kc.getD k 0)))).heap[w.heap.size]? = some (.cells (arrP 64 (kc.take (k + 1))) 80 (0, 0)) := by
  rw [heap_setCell_same _ _ _ _ _ _ h.ks]
  have := arrP_push 64 (kc.take k) (kc.getD k 0) (by simp [kc]; omega)
  rw [take_snocU kc k (by simp [kc]; omega)] at this
  rw [← this]
  have e : (kc.take k).length = k := by simp [kc]; omega
  rw [e]
theorem KH.step {w W : World} {k : Nat} (h : KH w k W) (hk : k < 64) (h8 : 8 ≤ k) : KH w (k + 1) (W.setCell ⟨w.heap.size, k, none⟩ (.int .u32 (V32 (kc.getD k 0)))) := by
  refine ⟨h.setK hk, ?_, h.below.setCell (by simp) _⟩
  rw [heap_setCell_other _ _ _ _ (by simp), h.hs]
  rw [List.take_of_length_le (by simp [hc]; omega), List.take_of_length_le (by simp [hc]; omega)]
theorem KH.step8 {w W W2 : World} {k : Nat} (h : KH w k W) (h8 : k < 8) (hb : Below (W.setCell ⟨w.heap.size, k, none⟩ (.int .u32 (V32 (kc.getD k 0)))).heap.size (W.setCell ⟨w.heap.size, k, none⟩ (.int .u32 (V32 (kc.getD k 0)))) W2) :
    KH w (k + 1) (W2.setCell ⟨w.heap.size + 1, k, none⟩ (.int .u32 (V32 (hc.getD k 0)))) := by
  have h1 : W2.heap[w.heap.size]? = some (.cells (arrP 64 (kc.take (k + 1))) 80 (0, 0)) := lives_block _ _ _ _ (h.setK (by omega)) hb
  have h2 : W2.heap[w.heap.size + 1]? = some (.cells (arrP 8 (hc.take k)) 73 (0, 0)) := lives_block _ _ _ _ ((heap_setCell_other _ _ _ _ (by simp)).trans h.hs) hb
  have h3 : Below w.heap.size w W2 := below_then (h.below.setCell (by simp) _) (h.below.setCell (p := ⟨w.heap.size, k, none⟩) (by simp) (.int .u32 (V32 (kc.getD k 0)))).size hb
  refine ⟨by rw [heap_setCell_other _ _ _ _ (by simp)]; exact h1, ?_, h3.setCell (by simp) _⟩
  rw [heap_setCell_same _ _ _ _ _ _ h2]
  have := arrP_push 8 (hc.take k) (hc.getD k 0) (by simp [hc]; omega)
  rw [take_snocU hc k (by simp [hc]; omega)] at this
  rw [← this]
  have e : (hc.take k).length = k := by simp [hc]; omega
  rw [e]
theorem KH.freeK {w W : World} {k : Nat} (h : KH w k W) (hk : k < 64) : (∃ u, W.cell? ⟨w.heap.size, k, none⟩ = some u) ∧ W.frozen? ⟨w.heap.size, k, none⟩ = false := by
  refine ⟨?_, frozen_of_row W _ _ _ 80 h.ks⟩
  rw [cell_of_row W _ k _ 80 (0, 0) h.ks]
  have := arrP_size 64 (kc.take k) (by simp [kc]; omega)
  exact ⟨_, Array.getElem?_eq_getElem (by omega)⟩
theorem KH.freeH {w W W2 : World} {k : Nat} (h : KH w k W) (h8 : k < 8) (hb : Below (W.setCell ⟨w.heap.size, k, none⟩ (.int .u32 (V32 (kc.getD k 0)))).heap.size (W.setCell ⟨w.heap.size, k, none⟩ (.int .u32 (V32 (kc.getD k 0)))) W2) :
    (∃ u, W2.cell? ⟨w.heap.size + 1, k, none⟩ = some u) ∧ W2.frozen? ⟨w.heap.size + 1, k, none⟩ = false := by
  have h2 : W2.heap[w.heap.size + 1]? = some (.cells (arrP 8 (hc.take k)) 73 (0, 0)) := lives_block _ _ _ _ ((heap_setCell_other _ _ _ _ (by simp)).trans h.hs) hb
  refine ⟨?_, frozen_of_row W2 _ _ _ 73 h2⟩
  rw [cell_of_row W2 _ k _ 73 (0, 0) h2]
  have := arrP_size 8 (hc.take k) (by simp [hc]; omega)
  exact ⟨_, Array.getElem?_eq_getElem (by omega)⟩

theorem kh_start (w : World) (cs cs' : Array Value) : KH w 0 ((((w.alloc (.cells cs 80)).alloc (.cells cs' 73)).setRow w.heap.size (arr64 [])).setRow (w.heap.size + 1) (arrP 8 [])) := by
  have h1 := heap_alloc2_old w (.cells cs 80) (.cells cs' 73)
  have h2 := heap_alloc2_new w (.cells cs 80) (.cells cs' 73)
  refine ⟨?_, ?_, below_setRow (below_setRow (((Below.refl _ w).alloc (Nat.le_refl _) _).alloc (by simp) _) (Nat.le_refl _) _) (by simp) _⟩
  · rw [setRow_other _ _ _ _ (by simp)]; exact setRow_heap _ _ _ _ _ _ h1
  · exact setRow_heap _ _ _ _ _ _ ((setRow_other _ _ _ _ (by simp)).trans h2)
/-- the primes' row lies as it lay -/
def PrAt (b o : Nat) (W : World) : Prop := ∀ i, i < 64 → W.cell? ⟨b, o + i, none⟩ = some (.int .u64 (prL.getD i 0 : Nat))
theorem PrAt.later {b o : Nat} {W W' : World} (h : PrAt b o W) (hb : Below W.heap.size W W') : PrAt b o W' := fun i hi => (hb.cell (World.block_lt_of_cell? _ _ (h i hi))).trans (h i hi)
theorem PrAt.set {b o : Nat} {W : World} (h : PrAt b o W) (a : Addr) (v : Value) (hne : b ≠ a.block) : PrAt b o (W.setCell a v) := fun i hi => (World.cell?_of_block (heap_setCell_other _ _ _ _ hne)).trans (h i hi)

/-- The constants; a state. -/
structure KS (w : World) (l : List UInt32) (W : World) : Prop where
  ks : W.heap[w.heap.size]? = some (.cells (arr64 kc) 80 (0, 0))
  hs : W.heap[w.heap.size + 1]? = some (.cells (arr8 l) 73 (0, 0))
  below : Below w.heap.size w W
theorem KH.full {w W : World} (h : KH w 64 W) : KS w hc W := ⟨h.ks, h.hs, h.below⟩
theorem KS.later {w W W' : World} {l : List UInt32} (h : KS w l W) (hb : Below W.heap.size W W') : KS w l W' :=
  ⟨lives_block _ _ _ _ h.ks hb, lives_block _ _ _ _ h.hs hb, below_then h.below h.below.size hb⟩
theorem OB.new0 (W : World) : OB W (W.alloc (.cells #[] 5)) (.slice (some ⟨W.heap.size, 0, none⟩) 0 0) [] :=
  ⟨own_new W W.heap.size 5 [] (by simp [maxLen]) (Nat.le_refl _), (Below.refl _ W).alloc (Nat.le_refl _) _⟩
def lenOf : Value → Nat
  | .slice _ n _ => n
  | _ => 0
theorem rep_snoc (bs : List UInt8) (j : Nat) : bs ++ [128] ++ List.replicate j 0 ++ [0] = bs ++ [128] ++ List.replicate (j + 1) 0 := by
  rw [List.append_assoc, ← List.replicate_succ']
/-- The message's cells. -/
def MC (b o q : Nat) (M : List UInt8) (W : World) : Prop := ∀ i, i < 64 * q → W.cell? ⟨b, o + i, none⟩ = some (.int .u8 (V8 (M.getD i 0)))
theorem MC.later {b o q : Nat} {M : List UInt8} {W W' : World} (h : MC b o q M W) (hb : Below W.heap.size W W') : MC b o q M W' := fun i hi => (hb.cell (World.block_lt_of_cell? _ _ (h i hi))).trans (h i hi)
theorem msg_at {W : World} {A : Option Addr} {q cap : Nat} {M : List UInt8} (h : Sl W (.slice A (64 * q) cap) (bv M)) (hm : M.length = 64 * q) (hq : 0 < q) :
    ∃ b o, A = some ⟨b, o, none⟩ ∧ b < W.heap.size ∧ MC b o q M W := by
  obtain ⟨a, c, he, _, _, _, hr⟩ := h.openB
  injection he with e1 e2 e3
  subst e1
  obtain ⟨b, o, rfl, hc0⟩ := hr.byte 0 (by omega)
  refine ⟨b, o, rfl, World.block_lt_of_cell? _ _ hc0, fun i hi => ?_⟩
  obtain ⟨b', o', e, hc⟩ := hr.byte i (by omega)
  cases e; exact hc
/-- A block's rounds: t of them. -/
structure RB (w : World) (N b o q : Nat) (M : List UInt8) (l : List UInt32) (j t : Nat) (W : World) : Prop where
  hw : W.heap[N]? = some (.cells (arr64 (wl (chunk M j) t)) 80 (0, 0))
  hv : W.heap[N + 1]? = some (.cells (arr8 (rounds l (chunk M j) t)) 73 (0, 0))
  ks : KS w l W
  mc : MC b o q M W
theorem new_after (W : World) (cs r cs' : Array Value) : (((W.alloc (.cells cs 80)).setRow W.heap.size r).alloc (.cells cs' 73)).heap[W.heap.size + 1]? = some (.cells cs' 73 (0, 0)) := by
  have h3 := heap_alloc_new ((W.alloc (.cells cs 80)).setRow W.heap.size r) (.cells cs' 73)
  have hsz : ((W.alloc (.cells cs 80)).setRow W.heap.size r).heap.size = W.heap.size + 1 := by simp
  rw [hsz] at h3; exact h3
theorem RB.start (w W : World) (b o q : Nat) (M : List UInt8) (l : List UInt32) (j : Nat) (cs cs' : Array Value) (h : KS w l W) (hm : MC b o q M W) :
    RB w W.heap.size b o q M l j 0 ((((W.alloc (.cells cs 80)).setRow W.heap.size (arr64 [])).alloc (.cells cs' 73)).setRow (W.heap.size + 1) (arr8 l)) := by
  have h1 := heap_alloc_new W (.cells cs 80)
  have h2 : ((W.alloc (.cells cs 80)).setRow W.heap.size (arr64 [])).heap[W.heap.size]? = some (.cells (arr64 []) 80 (0, 0)) := setRow_heap _ _ _ _ _ _ h1
  have hsz : ((W.alloc (.cells cs 80)).setRow W.heap.size (arr64 [])).heap.size = W.heap.size + 1 := by simp
  have h3 := heap_alloc_new ((W.alloc (.cells cs 80)).setRow W.heap.size (arr64 [])) (.cells cs' 73)
  rw [hsz] at h3
  have hb : Below W.heap.size W ((((W.alloc (.cells cs 80)).setRow W.heap.size (arr64 [])).alloc (.cells cs' 73)).setRow (W.heap.size + 1) (arr8 l)) :=
    below_setRow ((below_setRow ((Below.refl _ W).alloc (Nat.le_refl _) _) (Nat.le_refl _) _).alloc (by simp) _) (by simp) _
  refine ⟨?_, setRow_heap _ _ _ _ _ _ h3, h.later hb, hm.later hb⟩
  rw [setRow_other _ _ _ _ (by simp)]
  exact lives_block _ _ _ _ h2 ((Below.refl _ _).alloc (Nat.le_refl _) _)
theorem RB.later {w : World} {N b o q : Nat} {M : List UInt8} {l : List UInt32} {j t : Nat} {W W' : World} (h : RB w N b o q M l j t W) (hb : Below W.heap.size W W') : RB w N b o q M l j t W' :=
  ⟨lives_block _ _ _ _ h.hw hb, lives_block _ _ _ _ h.hv hb, h.ks.later hb, h.mc.later hb⟩
theorem RB.drewN {w : World} {N b o q : Nat} {M : List UInt8} {l : List UInt32} {j t : Nat} {W : World} (h : RB w N b o q M l j t W) (n : Nat) : RB w N b o q M l j t (W.drewN n) :=
  ⟨h.hw, h.hv, ⟨h.ks.ks, h.ks.hs, below_drewN h.ks.below n⟩, h.mc⟩
/-- The word is laid. -/
structure RC (w : World) (N b o q : Nat) (M : List UInt8) (l : List UInt32) (j t : Nat) (W : World) : Prop where
  hw : W.heap[N]? = some (.cells (arr64 (wl (chunk M j) (t + 1))) 80 (0, 0))
  hv : W.heap[N + 1]? = some (.cells (arr8 (rounds l (chunk M j) t)) 73 (0, 0))
  ks : KS w l W
  mc : MC b o q M W
theorem RC.drewN {w : World} {N b o q : Nat} {M : List UInt8} {l : List UInt32} {j t : Nat} {W : World} (h : RC w N b o q M l j t W) (n : Nat) : RC w N b o q M l j t (W.drewN n) :=
  ⟨h.hw, h.hv, ⟨h.ks.ks, h.ks.hs, below_drewN h.ks.below n⟩, h.mc⟩
theorem KS.set {w W : World} {l : List UInt32} (h : KS w l W) (a : Addr) (v : Value) (ha : w.heap.size + 2 ≤ a.block) : KS w l (W.setCell a v) :=
  ⟨by rw [heap_setCell_other _ _ _ _ (by omega)]; exact h.ks, by rw [heap_setCell_other _ _ _ _ (by omega)]; exact h.hs, h.below.setCell (by omega) _⟩
theorem KS.row {w W : World} {l : List UInt32} (h : KS w l W) (g : Nat) (cs : Array Value) (ha : w.heap.size + 2 ≤ g) : KS w l (W.setRow g cs) :=
  ⟨by rw [setRow_other _ _ _ _ (by omega)]; exact h.ks, by rw [setRow_other _ _ _ _ (by omega)]; exact h.hs, below_setRow h.below (by omega) _⟩
theorem RB.word {w : World} {N b o q : Nat} {M : List UInt8} {l : List UInt32} {j t : Nat} {W : World} (h : RB w N b o q M l j t W) (ht : t < 64) (hN : w.heap.size + 2 ≤ N) (hbN : b < N) :
    RC w N b o q M l j t (W.setCell ⟨N, t, none⟩ (.int .u32 (V32 (nextW (chunk M j) (wl (chunk M j) t) t)))) := by
  refine ⟨?_, by rw [heap_setCell_other _ _ _ _ (by simp)]; exact h.hv, h.ks.set _ _ hN, fun i hi => (World.cell?_of_block (heap_setCell_other _ _ _ _ (by simp; omega))).trans (h.mc i hi)⟩
  rw [heap_setCell_same _ _ _ _ _ _ h.hw]
  have := arr64_push (wl (chunk M j) t) (nextW (chunk M j) (wl (chunk M j) t) t) (by rw [wl_length]; exact ht)
  rw [wl_length] at this
  rw [this]; rfl
theorem RB.free {w : World} {N b o q : Nat} {M : List UInt8} {l : List UInt32} {j t : Nat} {W : World} (h : RB w N b o q M l j t W) (ht : t < 64) :
    (∃ u, W.cell? ⟨N, t, none⟩ = some u) ∧ W.frozen? ⟨N, t, none⟩ = false := by
  refine ⟨?_, frozen_of_row W _ _ _ 80 h.hw⟩
  rw [cell_of_row W _ t _ 80 (0, 0) h.hw]
  have := arr64_size (wl (chunk M j) t) (by rw [wl_length]; omega)
  exact ⟨_, Array.getElem?_eq_getElem (by omega)⟩
theorem RB.cell {w : World} {N b o q : Nat} {M : List UInt8} {l : List UInt32} {j t : Nat} {W : World} (h : RB w N b o q M l j t W) (i : Nat) (hi : i < t) :
    W.cell? ⟨N, i, none⟩ = some (.int .u32 (V32 ((wl (chunk M j) t).getD i 0))) := by
  rw [cell_of_row W _ i _ 80 (0, 0) h.hw, arr64_at _ _ (by rw [wl_length]; exact hi)]
theorem RC.later {w : World} {N b o q : Nat} {M : List UInt8} {l : List UInt32} {j t : Nat} {W W' : World} (h : RC w N b o q M l j t W) (hb : Below W.heap.size W W') : RC w N b o q M l j t W' :=
  ⟨lives_block _ _ _ _ h.hw hb, lives_block _ _ _ _ h.hv hb, h.ks.later hb, h.mc.later hb⟩
/-- The state grows by a block's end: k words of it. -/
structure FB (w : World) (N b o q : Nat) (M : List UInt8) (l T : List UInt32) (k : Nat) (W : World) : Prop where
  hv : W.heap[N + 1]? = some (.cells (arr8 T) 73 (0, 0))
  ks : KS w (mix l T k) W
  mc : MC b o q M W
theorem FB.drewN {w : World} {N b o q : Nat} {M : List UInt8} {l T : List UInt32} {k : Nat} {W : World} (h : FB w N b o q M l T k W) (n : Nat) : FB w N b o q M l T k (W.drewN n) :=
  ⟨h.hv, ⟨h.ks.ks, h.ks.hs, below_drewN h.ks.below n⟩, h.mc⟩
theorem FB.step {w : World} {N b o q : Nat} {M : List UInt8} {l T : List UInt32} {k : Nat} {W : World} (h : FB w N b o q M l T k W) (hk : k < 8) (hN : w.heap.size + 2 ≤ N) (hb : w.heap.size + 2 ≤ b) :
    FB w N b o q M l T (k + 1) (W.setCell ⟨w.heap.size + 1, k, none⟩ (.int .u32 (V32 (l.getD k 0 + T.getD k 0)))) := by
  refine ⟨by rw [heap_setCell_other _ _ _ _ (by simp; omega)]; exact h.hv, ⟨?_, ?_, h.ks.below.setCell (by simp) _⟩, fun i hi => (World.cell?_of_block (heap_setCell_other _ _ _ _ (by simp; omega))).trans (h.mc i hi)⟩
  · rw [heap_setCell_other _ _ _ _ (by simp)]; exact h.ks.ks
  · rw [heap_setCell_same _ _ _ _ _ _ h.ks.hs, mix_step l T k hk]
theorem wl_stable (m : List UInt8) (t : Nat) : ∀ n, t < n → (wl m n).getD t 0 = (wl m (t + 1)).getD t 0 := by
  intro n
  induction n with
  | zero => intro h; omega
  | succ n ih =>
    intro h
    by_cases hn : t = n
    · subst hn; rfl
    · rw [← ih (by omega)]
      rw [wl, List.getD_eq_getElem?_getD, List.getElem?_append_left (by rw [wl_length]; omega), ← List.getD_eq_getElem?_getD]
theorem RC.vc {w : World} {N b o q : Nat} {M : List UInt8} {l : List UInt32} {j t : Nat} {W : World} (h : RC w N b o q M l j t W) (hl : l.length = 8) (i : Nat) (hi : i < 8) :
    W.cell? ⟨N + 1, i, none⟩ = some (.int .u32 (V32 ((rounds l (chunk M j) t).getD i 0))) := by
  rw [cell_of_row _ _ _ _ _ _ h.hv, arr8_at _ _ (by rw [rounds_length l _ hl]; exact hi)]
theorem RC.kcell {w : World} {N b o q : Nat} {M : List UInt8} {l : List UInt32} {j t : Nat} {W : World} (h : RC w N b o q M l j t W) (ht : t < 64) :
    W.cell? ⟨w.heap.size, t, none⟩ = some (.int .u32 (V32 (kc.getD t 0))) := by
  rw [cell_of_row _ _ _ _ _ _ h.ks.ks, arr64_at _ _ (by simpa [kc] using ht)]
theorem RC.wcell {w : World} {N b o q : Nat} {M : List UInt8} {l : List UInt32} {j t : Nat} {W : World} (h : RC w N b o q M l j t W) (ht : t < 64) :
    W.cell? ⟨N, t, none⟩ = some (.int .u32 (V32 ((wl (chunk M j) 64).getD t 0))) := by
  rw [cell_of_row _ _ _ _ _ _ h.hw, arr64_at _ _ (by rw [wl_length]; omega), wl_stable _ t 64 ht]
/-- the two words of a round -/
def t1v (l : List UInt32) (m : List UInt8) (t : Nat) : UInt32 :=
  (rounds l m t).getD 7 0 + sig3 ((rounds l m t).getD 4 0) 6 11 25 + ((rounds l m t).getD 4 0 &&& (rounds l m t).getD 5 0 ^^^ ~~~(rounds l m t).getD 4 0 &&& (rounds l m t).getD 6 0) + kc.getD t 0 + (wl m 64).getD t 0
def t2v (l : List UInt32) (m : List UInt8) (t : Nat) : UInt32 :=
  sig3 ((rounds l m t).getD 0 0) 2 13 22 + ((rounds l m t).getD 0 0 &&& (rounds l m t).getD 1 0 ^^^ (rounds l m t).getD 0 0 &&& (rounds l m t).getD 2 0 ^^^ (rounds l m t).getD 1 0 &&& (rounds l m t).getD 2 0)
theorem rounds_next (l : List UInt32) (m : List UInt8) (t : Nat) : rounds l m (t + 1) =
    [t1v l m t + t2v l m t, (rounds l m t).getD 0 0, (rounds l m t).getD 1 0, (rounds l m t).getD 2 0, (rounds l m t).getD 3 0 + t1v l m t, (rounds l m t).getD 4 0, (rounds l m t).getD 5 0, (rounds l m t).getD 6 0] := rfl
theorem RC.round {w : World} {N b o q : Nat} {M : List UInt8} {l : List UInt32} {j t : Nat} {W : World} (h : RC w N b o q M l j t W) (hN : w.heap.size + 2 ≤ N) (hbN : b < N) :
    RB w N b o q M l j (t + 1) (W.setRow (N + 1) (arr8 (rounds l (chunk M j) (t + 1)))) :=
  ⟨by rw [setRow_other _ _ _ _ (by simp)]; exact h.hw, setRow_heap _ _ _ _ _ _ h.hv, h.ks.row _ _ (by omega), fun i hi => (World.cell?_of_block (setRow_other _ _ _ _ (by simp; omega))).trans (h.mc i hi)⟩
theorem shaN_length' (m : List UInt8) (q : Nat) : (shaN m q).length = 8 := by rw [← stateOf_all]; exact stateOf_length _ _
theorem v8_up (y : UInt8) : V8 y = V32 y.toUInt32 := by unfold V8 V32; rw [UInt8.toNat_toUInt32]
theorem up_lt (y : UInt8) : V32 y.toUInt32 < 256 := by rw [← v8_up]; exact V8_lt y
theorem up24 (y : UInt8) : IntKind.u32.wrap (V32 y.toUInt32 * 16777216) = V32 (y.toUInt32 <<< 24) := by rw [IntKind.wrap_u32]; exact v32_shl y.toUInt32 24 (by decide)
theorem up16 (y : UInt8) : IntKind.u32.wrap (V32 y.toUInt32 * 65536) = V32 (y.toUInt32 <<< 16) := by rw [IntKind.wrap_u32]; exact v32_shl y.toUInt32 16 (by decide)
theorem up8 (y : UInt8) : IntKind.u32.wrap (V32 y.toUInt32 * 256) = V32 (y.toUInt32 <<< 8) := by rw [IntKind.wrap_u32]; exact v32_shl y.toUInt32 8 (by decide)
theorem up_shl (y : UInt8) (n : Nat) (hn : n ≤ 24) : V32 y.toUInt32 * 2 ^ n = V32 (y.toUInt32 <<< n.toUInt32) := by
  rw [← v32_shl _ _ (by omega)]
  have h := up_lt y
  have h0 := V32_nn y.toUInt32
  have h2 : (2 : Int) ^ n ≤ 2 ^ 24 := by
    have : (2 : Nat) ^ n ≤ 2 ^ 24 := Nat.pow_le_pow_right (by decide) hn
    exact_mod_cast this
  have h3 : V32 y.toUInt32 * 2 ^ n ≤ 255 * 2 ^ 24 := Int.mul_le_mul (by omega) h2 (Int.le_of_lt (Int.pow_pos (by decide))) (by decide)
  have h4 : 0 ≤ V32 y.toUInt32 * 2 ^ n := Int.mul_nonneg h0 (Int.le_of_lt (Int.pow_pos (by decide)))
  rw [Int.emod_eq_of_lt h4 (by omega)]
/-- The loops of a code, in the text's order. -/
def loopsOf : Code → List Code
  | .seq a b => loopsOf a ++ loopsOf b
  | .cond _ a b => loopsOf a ++ loopsOf b
  | .block _ b => loopsOf b
  | .loop b => .loop b :: loopsOf b
  | .scope b => loopsOf b
  | .rangeFunc _ _ a b => loopsOf a ++ loopsOf b
  | _ => []
/-- The region of a number. -/
def regionOf (n : Nat) : Code → List Code
  | .seq a b => regionOf n a ++ regionOf n b
  | .cond _ a b => regionOf n a ++ regionOf n b
  | .block _ b => regionOf n b
  | .loop b => regionOf n b
  | .scope b => regionOf n b
  | .rangeFunc _ _ a b => regionOf n a ++ regionOf n b
  | .region id ops d => if id = n then [.region id ops d] else []
  | _ => []
def regionAt (f : Func) (n : Nat) : Code := ((f.body.map (regionOf n)).getD []).getD 0 .skip
def loopAt (f : Func) (k : Nat) : Code := ((f.body.map loopsOf).getD []).getD k .skip
theorem frac3_any (k : Nat) (hk : k < 64) (w : World) : Calls Try.prog 56 #[.int .u64 (prL.getD k 0 : Nat), .int .i64 3] w fun e w' => e = .returned (.int .u32 (V32 (kc.getD k 0))) ∧ Below w.heap.size w w' := by
  have h := fraction_any w (prL.getD k 0) 3 (.inr rfl)
  rw [frac3 k hk] at h
  exact h
theorem frac2_any (k : Nat) (hk : k < 8) (w : World) : Calls Try.prog 56 #[.int .u64 (prL.getD k 0 : Nat), .int .i64 2] w fun e w' => e = .returned (.int .u32 (V32 (hc.getD k 0))) ∧ Below w.heap.size w w' := by
  have h := fraction_any w (prL.getD k 0) 2 (.inl rfl)
  rw [frac2 k hk] at h
  exact h
/-- A round of the constants' loop, below 8. -/
theorem kh_round8 (w wr : World) (k bp op : Nat) (hK : KH w k wr) (hP : PrAt bp op wr) (hk : k < 8) (hne1 : bp ≠ w.heap.size) (hne2 : bp ≠ w.heap.size + 1) (w2 : World) (hB2 : Below wr.heap.size wr w2) :
    (∃ u, w2.cell? ⟨w.heap.size, k, none⟩ = some u) ∧ w2.frozen? ⟨w.heap.size, k, none⟩ = false ∧
    ∀ w3, Below (w2.setCell ⟨w.heap.size, k, none⟩ (.int .u32 (V32 (kc.getD k 0)))).heap.size (w2.setCell ⟨w.heap.size, k, none⟩ (.int .u32 (V32 (kc.getD k 0)))) w3 →
      (∃ u, w3.cell? ⟨w.heap.size + 1, k, none⟩ = some u) ∧ w3.frozen? ⟨w.heap.size + 1, k, none⟩ = false ∧
      KH w (k + 1) (w3.setCell ⟨w.heap.size + 1, k, none⟩ (.int .u32 (V32 (hc.getD k 0)))) ∧ PrAt bp op (w3.setCell ⟨w.heap.size + 1, k, none⟩ (.int .u32 (V32 (hc.getD k 0)))) := by
  have hK2 := hK.later hB2
  have hP2 := hP.later hB2
  obtain ⟨h1, h2⟩ := hK2.freeK (by omega)
  refine ⟨h1, h2, fun w3 hB3 => ?_⟩
  obtain ⟨h3, h4⟩ := hK2.freeH hk hB3
  exact ⟨h3, h4, hK2.step8 hk hB3, ((hP2.set _ _ hne1).later hB3).set _ _ hne2⟩
theorem kh_round (w wr : World) (k bp op : Nat) (hK : KH w k wr) (hP : PrAt bp op wr) (hk : k < 64) (h8 : 8 ≤ k) (hne1 : bp ≠ w.heap.size) (w2 : World) (hB2 : Below wr.heap.size wr w2) :
    (∃ u, w2.cell? ⟨w.heap.size, k, none⟩ = some u) ∧ w2.frozen? ⟨w.heap.size, k, none⟩ = false ∧
    KH w (k + 1) (w2.setCell ⟨w.heap.size, k, none⟩ (.int .u32 (V32 (kc.getD k 0)))) ∧ PrAt bp op (w2.setCell ⟨w.heap.size, k, none⟩ (.int .u32 (V32 (kc.getD k 0)))) := by
  have hK2 := hK.later hB2
  have hP2 := hP.later hB2
  obtain ⟨h1, h2⟩ := hK2.freeK hk
  exact ⟨h1, h2, hK2.step hk h8, hP2.set _ _ hne1⟩

end Go.Proofs.Ytllnocffmlagjaa
