/- Contracts of matrix.size, blank, New, Size. Conditions: each theorem names its own. -/
import Derived.Test.YtllnocffmlagjaaY1
import Derived.Test.YtllnocffmlagjaaF2
set_option linter.unusedVariables false
set_option linter.unusedSimpArgs false
namespace Go.Proofs.Ytllnocffmlagjaa
open Go.RowKit
attribute [local go_sem] flowAt flowUpon

set_option maxHeartbeats 400000 in
theorem msize_any (w : World) (n : Int) : Calls Try.prog 60 #[.int .i64 n] w fun e w' => e = .returned (.bool (decide (1 ≤ n) && decide (n ≤ 64))) ∧ w' = w := by
  by_cases h : 1 ≤ n
  · by_cases h' : n ≤ 64
    · go_enter Try.func60, Try.ntmps60
      go_wp2
      go_ret
      exact ⟨by simp [h, h'], rfl⟩
    · go_enter Try.func60, Try.ntmps60
      go_wp2
      go_ret
      exact ⟨by simp [h, h'], rfl⟩
  · go_enter Try.func60, Try.ntmps60
    go_wp2
    go_ret
    exact ⟨by simp [h]; omega, rfl⟩

/-- A matrix of the call's own. -/
structure OM (w0 w : World) (P : Nat) (lv : Value) (vs : List Value) (rows : List (List UInt8)) : Prop where
  ptr : w.heap[P]? = some (.cells #[lv] 94 (0, 0))
  base : w0.heap.size ≤ P
  or : OR w0 w lv vs rows
theorem OM.later {w0 w w' : World} {P : Nat} {lv : Value} {vs : List Value} {rows : List (List UInt8)} (h : OM w0 w P lv vs rows) (hb : Below w.heap.size w w') : OM w0 w' P lv vs rows :=
  ⟨(hb.block P (Array.getElem?_eq_some_iff.1 h.ptr).1).trans h.ptr, h.base, h.or.later hb⟩
theorem OM.cell {w0 w : World} {P : Nat} {lv : Value} {vs : List Value} {rows : List (List UInt8)} (h : OM w0 w P lv vs rows) : w.cell? ⟨P, 0, none⟩ = some lv := (cell_of_row w P 0 _ _ _ h.ptr).trans rfl
theorem OM.drewN {w0 w : World} {P : Nat} {lv : Value} {vs : List Value} {rows : List (List UInt8)} (h : OM w0 w P lv vs rows) (n : Nat) : OM w0 (w.drewN n) P lv vs rows := ⟨h.ptr, h.base, h.or.drewN n⟩
/-- The pointer's block is no row's. -/
theorem OM.put {w0 w w2 : World} {P g L cap : Nat} {vs : List Value} {rows : List (List UInt8)} (h : OM w0 w P (.slice (some ⟨g, 0, none⟩) L cap) vs rows) (i : Nat) (hi : i < rows.length) {u : Value} {bs : List UInt8} (hO : OB w w2 u bs) :
    OM w0 (w2.setCell ⟨g, i, none⟩ u) P (.slice (some ⟨g, 0, none⟩) L cap) (vs.set i u) (rows.set i bs) := by
  have h2 := h.later hO.2
  have hne := own_not h2.ptr h2.or.row (by decide)
  refine ⟨?_, h.base, h.or.put i hi hO⟩
  rw [heap_setCell_other]
  · exact h2.ptr
  · intro e
    rcases hne with h' | h'
    · cases h'
    · exact h' (by rw [e]; rfl)
theorem OM.setAt {w0 w : World} {P : Nat} {lv : Value} {vs : List Value} {rows : List (List UInt8)} (h : OM w0 w P lv vs rows) (i : Nat) (hi : i < rows.length) {X m c : Nat} (hv : vs.getD i undef = .slice (some ⟨X, 0, none⟩) m c) (k : Nat) (y : UInt8) :
    OM w0 (w.setCell ⟨X, k, none⟩ (.int .u8 (V8 y))) P lv vs (rows.set i ((rows.getD i []).set k y)) := by
  have hel := h.or.el i hi
  rw [hv] at hel
  have hne := own_not h.ptr hel (by decide)
  refine ⟨?_, h.base, h.or.setAt i hi hv k y⟩
  rw [heap_setCell_other]
  · exact h.ptr
  · intro e
    rcases hne with h' | h'
    · cases h'
    · exact h' (by rw [e]; rfl)
/-- make([]byte, n) in a region that draws -/
theorem flow_make {a : Act} {w : World} {o : Oper} (x y : Operand) (ho : o.op = .makeSlice 22 x y) (W : World) (hB : Below W.heap.size W w) (N : Int) (n : Nat) (hN : N = n) (hx : a.eval x = .int .i64 N) (hy : a.eval y = .int .i64 N) (hn : n ≤ 10000) :
    flowAt Try.prog o a w (fun u w' => OB W w' u (List.replicate n 0) ∧ u = .slice (some ⟨w.heap.size, 0, none⟩) n n) := by
  subst hN
  obtain ⟨i, hi, hz0, hz1, hz2⟩ := info_parts inf5
  obtain ⟨w', hr, h1, h2⟩ := run_makeSlice_full (P := Try.prog) w w.heap.size 22 5 i _ 1 Try.underlying22 hi hz0 hz1 .i64 .i64 n (by omega) (by rw [hz2]; omega) (by simp [maxLen]; omega) (Nat.le_refl _)
  rw [made_list _ rfl] at h1
  have hb := below_grown h2 (by simp) (Nat.le_refl _)
  unfold flowAt flowUpon execOp
  simp only [ho, Sem.run_bind, Sem.run_pure, Result.andThen_ok, hx, hy, hr]
  exact ⟨hb, OB.zeros h1 hB hb, trivial⟩
/-- The first k rows are whole rows of c bytes. -/
def Full (vs : List Value) (k c : Nat) : Prop := ∀ i, i < k → ∃ X, vs.getD i undef = .slice (some ⟨X, 0, none⟩) c c
theorem Full.put {vs : List Value} {k c : Nat} (h : Full vs k c) (hk : k < vs.length) (X : Nat) : Full (vs.set k (.slice (some ⟨X, 0, none⟩) c c)) (k + 1) c := by
  intro i hi
  by_cases e : k = i
  · subst e; exact ⟨X, getD_set_eq _ _ _ _ hk⟩
  · rw [getD_set_other _ _ _ _ _ e]; exact h i (by omega)
set_option maxRecDepth 100000 in
set_option maxHeartbeats 2000000 in
theorem blank_any (w : World) (n c : Nat) (h1 : 1 ≤ n) (hn : n ≤ 100) (h1c : 1 ≤ c) (hc : c ≤ 100) :
    Calls Try.prog 61 #[.int .i64 n, .int .i64 c] w fun e w' => ∃ P G vs, e = .returned (.pointer (some ⟨P, 0, none⟩)) ∧ OM w w' P (.slice (some ⟨G, 0, none⟩) n n) vs (List.replicate n (List.replicate c 0)) ∧ Hid (Full vs n c) := by
  have hn' : (n : Int) ≤ 100 := by omega
  have hc' : (c : Int) ≤ 100 := by omega
  go_enter Try.func61, Try.ntmps61
  go_wp2_with (with_reducible refine wpL_make _ rfl _ _ 27 22 _ 24 rfl Try.underlying27 inf22 rfl _ n (by omega) rfl rfl (by omega) (by omega) ?_; intro w2 hw2 hb2)
  have hO := OR.new w n hw2 hb2
  have hOM : OM w (w2.alloc (.cells #[.slice (some ⟨w.heap.size, 0, none⟩) n n] 94)) w2.heap.size (.slice (some ⟨w.heap.size, 0, none⟩) n n) (List.replicate n (.slice none 0 0)) (List.replicate n []) :=
    ⟨heap_alloc_new w2 _, hb2.size, hO.later ((Below.refl _ w2).alloc (Nat.le_refl _) _)⟩
  clear hw2 hb2 hO
  generalize w2.alloc (.cells #[.slice (some ⟨w.heap.size, 0, none⟩) n n] 94) = W at *
  generalize w2.heap.size = P at *
  go_loopw [6, 16] (fun _ i wr => ∃ (k : Nat) (vs : List Value) (rows : List (List UInt8)), k ≤ n ∧ Hid (rows = (List.range k).map (fun _ => List.replicate c 0) ++ List.replicate (n - k) []) ∧ i = .int .i64 k ∧ OM w wr P (.slice (some ⟨w.heap.size, 0, none⟩) n n) vs rows ∧ Hid (Full vs k c)) (fun _ i _ => (n - intOf i).toNat)
  case atStart => exact ⟨0, _, _, by omega, rfl, rfl, hOM, fun i hi => absurd hi (by omega)⟩
  case round =>
    obtain ⟨k, vs, rows, hk, hrows, rfl, hOM, hFu⟩ := hrel
    by_cases hlt : k < n
    · have hlt' : (k : Int) < n := by omega
      have hrl : rows.length = n := by rw [hrows.out]; simp; omega
      have HOM := Lib.hid hOM
      have HR := Lib.hid (show rows.set k (List.replicate c 0) = (List.range (k + 1)).map (fun _ => List.replicate c 0) ++ List.replicate (n - (k + 1)) [] by rw [hrows.out]; exact grow_fill (fun _ => List.replicate c (0 : UInt8)) [] k n hlt [])
      have Hk := Lib.hid (show k + 1 ≤ n from hlt)
      have HK := Lib.hid (show k < rows.length by omega)
      clear hOM hrl hlt hk
      go_wp2
      refine wp_flowC 8 (by kernel_rfl) (by kernel_rfl) (fun w' => Below wr.heap.size wr w') (lives_below _) (Below.refl _ _) ?_
      simp only [List.take_succ_cons, List.take_zero, List.drop_succ_cons, List.drop_zero]
      refine' flow_D0 rfl (fun ν w2 hC hD => ?_) ?_; rotate_left
      · clear hC hD; go_simp; exact ⟨Below.refl _ _, rfl⟩
      simp only [Act.put, List.setIfInBounds_toArray, List.set_cons_zero, List.set_cons_succ]
      refine' flow_D0 rfl (fun ν w2 hC hD => ?_) ?_; rotate_left
      · clear hC hD; go_simp; exact ⟨Below.refl _ _, rfl⟩
      simp only [Act.put, List.setIfInBounds_toArray, List.set_cons_zero, List.set_cons_succ]
      refine' flow_D0 rfl (fun ν w2 hC hD => ?_) ?_; rotate_left
      · clear hC hD; go_simp; exact ⟨Below.refl _ _, rfl⟩
      simp only [Act.put, List.setIfInBounds_toArray, List.set_cons_zero, List.set_cons_succ]
      refine' flow_D0 (e := .slice (some ⟨w.heap.size, 0, none⟩) n n) rfl (fun ν w2 hC hD => ?_) ?_
      · have c1 := (HOM.out.later hC).cell; clear hC hD; go_simp; exact ⟨Below.refl _ _, rfl⟩
      simp only [Act.put, List.setIfInBounds_toArray, List.set_cons_zero, List.set_cons_succ]
      refine' flow_D0 rfl (fun ν w2 hC hD => ?_) ?_; rotate_left
      · clear hC hD; go_simp; exact ⟨Below.refl _ _, rfl⟩
      simp only [Act.put, List.setIfInBounds_toArray, List.set_cons_zero, List.set_cons_succ]
      refine' flow_D0 rfl (fun ν w2 hC hD => ?_) ?_; rotate_left
      · clear hC hD; go_simp; exact ⟨Below.refl _ _, rfl⟩
      simp only [Act.put, List.setIfInBounds_toArray, List.set_cons_zero, List.set_cons_succ]
      refine' flow_N0 (fun u w' => OB wr w' u (List.replicate c 0) ∧ ∃ X, u = .slice (some ⟨X, 0, none⟩) c c) (fun _ => lives_and (lives_ob _ _ _) (lives_pure _)) rfl (fun ν w2 hC hD => ?_) ?_
      · exact flowUpon_mono (flow_make (.tmp 24) (.tmp 24) rfl wr hC c c rfl rfl rfl (by omega)) fun u w' h => ⟨h.1, _, h.2⟩
      simp only [Act.put, List.setIfInBounds_toArray, List.set_cons_zero, List.set_cons_succ]
      refine' flow_D0 rfl (fun ν w2 hC hD => ?_) ?_; rotate_left
      · clear hC hD; go_simp; exact ⟨Below.refl _ _, rfl⟩
      simp only [Act.put, List.setIfInBounds_toArray, List.set_cons_zero, List.set_cons_succ]
      refine flow_nil ?_
      intro ν w2 hC hG
      obtain ⟨gg, hgg, cz, fz, _, _⟩ := (HOM.out.later hC).or.at k HK.out
      cases hgg
      obtain ⟨X6, h6⟩ := hG.2.2
      have HP := Lib.hid (HOM.out.put k HK.out hG.2.1)
      rw [HR.out, h6] at HP
      have HFu := Lib.hid (hFu.out.put (by rw [HOM.out.or.len]; exact HK.out) X6)
      clear hC hG
      go_wp2
      have hk := Hk.out
      exact ⟨⟨k + 1, _, _, hk, rfl, by simp, HP.out, HFu.out⟩, by simp [intOf]; omega⟩
    · obtain rfl : k = n := by omega
      have hz : Hid (rows = List.replicate k (List.replicate c 0)) := by rw [Hid, hrows.out, Nat.sub_self]; simp [List.map_const']
      rw [hz.out] at hOM
      clear hlt hk
      go_wp2
      go_ret
      exact ⟨_, _, _, rfl, hOM, hFu⟩
end Go.Proofs.Ytllnocffmlagjaa
