/- Contract of field.New. Conditions: none. -/
import Derived.Test.YtllnocffmlagjaaX1
set_option linter.unusedVariables false
namespace Go.Proofs.Ytllnocffmlagjaa
open Go.RowKit

def Z89 : Array Value := (List.replicate 510 (Value.int .u8 0) ++ List.replicate 256 (Value.int .i64 0)).toArray
set_option maxRecDepth 100000 in
theorem inf89 : (Try.prog.info? 89).map (fun i => (i.zero, i.size)) = some (some (.agg Z89), 766) := by kernel_rfl
set_option maxRecDepth 100000 in
theorem run_build89 (w : World) : (Instr.build 89 #[]).run Try.prog w = .ok (.agg Z89) w := by kernel_rfl
theorem run_box89 (w : World) (cs : Array Value) : (Instr.box 89 (.agg cs)).run Try.prog w = .ok (.pointer (some ⟨w.heap.size, 0, none⟩)) (w.alloc (.cells cs 89)) := by
  rfl

section
variable {ops : Array Oper} {rest : List Oper} {o : Oper} {a : Act} {w : World} {Q : Exit → Act → World → Prop}
theorem wpL_build89 (hgd : o.guard = none) (ho : o.op = .build 89 #[]) (Z : Array Value) (hZ : Z = Z89) (h : wpList Try.prog ops Q rest (a.put o.dst (.agg Z)) w) : wpList Try.prog ops Q (o :: rest) a w := by
  subst hZ
  refine wpList_plain hgd fun K hK => ?_
  unfold Oper.wp execOp
  simp only [ho, Sem.run_bind, Sem.run_pure, Result.andThen_ok, List.map_toArray, List.map_nil, run_build89]
  exact hK _ _ h
theorem wpL_box89 (hgd : o.guard = none) (x : Operand) (ho : o.op = .box 89 x) (Z : Array Value) (hx : a.eval x = .agg Z) (h : wpList Try.prog ops Q rest (a.put o.dst (.pointer (some ⟨w.heap.size, 0, none⟩))) (w.alloc (.cells Z 89))) : wpList Try.prog ops Q (o :: rest) a w := by
  refine wpList_plain hgd fun K hK => ?_
  unfold Oper.wp execOp
  simp only [ho, Sem.run_bind, Sem.run_pure, Result.andThen_ok, hx, run_box89]
  exact hK _ _ h
end

/-- The tables, filled up to power k. -/
structure FT (k : Nat) (cur : Array Value) : Prop where
  size : cur.size = 766
  p : ∀ j, j < 510 → (j < k ∨ (255 ≤ j ∧ j < 255 + k)) → cur[j]? = some (.int .u8 (V8 (pw j)))
  l : ∀ x : UInt8, cur[510 + x.toNat]? = some (.int .i64 ((lgN k x : Nat) : Int))
theorem FT.zero : FT 0 Z89 := by
  have hl : (List.replicate 510 (Value.int .u8 0)).length = 510 := List.length_replicate
  refine ⟨?_, fun j hj h => by omega, fun x => ?_⟩
  · unfold Z89
    rw [List.size_toArray, List.length_append, hl, List.length_replicate]
  · have := x.toNat_lt
    unfold Z89
    rw [List.getElem?_toArray, List.getElem?_append_right (by rw [hl]; omega), List.getElem?_replicate, if_pos (by rw [hl]; omega)]; rfl
theorem FT.step {k : Nat} {cur : Array Value} (h : FT k cur) (hk : k < 255) :
    FT (k + 1) (((cur.setIfInBounds k (.int .u8 (V8 (pw k)))).setIfInBounds (k + 255) (.int .u8 (V8 (pw k)))).setIfInBounds (510 + (pw k).toNat) (.int .i64 (k : Nat))) := by
  have hx := (pw k).toNat_lt
  refine ⟨by simp [h.size], fun j hj hc => ?_, fun x => ?_⟩
  · rw [Array.getElem?_setIfInBounds, if_neg (by omega), Array.getElem?_setIfInBounds]
    split
    · rename_i e
      rw [if_pos (by simp [h.size]; omega), ← e, pw_period]
    · rw [Array.getElem?_setIfInBounds]
      split
      · rename_i e
        rw [if_pos (by rw [h.size]; omega), e]
      · exact h.p j hj (by omega)
  · rw [Array.getElem?_setIfInBounds]
    split
    · rename_i e
      have e1 : pw k = x := UInt8.toNat_inj.1 (by omega)
      rw [if_pos (by simp [h.size]; omega), lgN, if_pos e1]
    · rename_i e
      have hx' := x.toNat_lt
      rw [Array.getElem?_setIfInBounds, if_neg (by omega), Array.getElem?_setIfInBounds, if_neg (by omega), h.l x, lgN, if_neg (fun e' => e (by rw [e']))]
/-- The field at block F. -/
def FD (w : World) (F : Nat) : Prop := ∃ cur, w.heap[F]? = some (.cells cur 89 (0, 0)) ∧ (∀ j, j < 510 → cur[j]? = some (.int .u8 (V8 (pw j)))) ∧ ∀ x : UInt8, cur[510 + x.toNat]? = some (.int .i64 ((lg x : Nat) : Int))
theorem FT.done {cur : Array Value} (h : FT 255 cur) {w : World} {F : Nat} (hF : w.heap[F]? = some (.cells cur 89 (0, 0))) : FD w F := ⟨cur, hF, fun j hj => h.p j hj (by omega), h.l⟩
theorem FD.later {w w' : World} {F : Nat} (h : FD w F) (hb : Below w.heap.size w w') : FD w' F := by
  obtain ⟨cur, h1, h2, h3⟩ := h
  exact ⟨cur, (hb.block F (Array.getElem?_eq_some_iff.1 h1).1).trans h1, h2, h3⟩
theorem FD.pow {w : World} {F : Nat} (h : FD w F) (j : Nat) (hj : j < 510) : w.cell? ⟨F, j, none⟩ = some (.int .u8 (V8 (pw j))) := by
  obtain ⟨cur, h1, h2, h3⟩ := h
  rw [cell_of_row w F j _ _ _ h1, h2 j hj]
theorem FD.log {w : World} {F : Nat} (h : FD w F) (x : UInt8) : w.cell? ⟨F, 510 + x.toNat, none⟩ = some (.int .i64 ((lg x : Nat) : Int)) := by
  obtain ⟨cur, h1, h2, h3⟩ := h
  rw [cell_of_row w F _ _ _ _ h1, h3 x]

set_option maxRecDepth 100000 in
set_option maxHeartbeats 2000000 in
theorem fnew_any (w : World) : Calls Try.prog 16 #[] w fun e w' => e = .returned (.pointer (some ⟨w.heap.size, 0, none⟩)) ∧ FD w' w.heap.size ∧ Below w.heap.size w w' := by
  obtain ⟨Z, hZ⟩ : ∃ Z, Z = Z89 := ⟨_, rfl⟩
  have h0 : FT 0 Z := by rw [hZ]; exact FT.zero
  have HZ := Lib.hid hZ
  clear hZ
  go_enter Try.func16, Try.ntmps16
  go_wp2_with (first
    | (with_reducible refine wpL_build89 rfl rfl Z HZ.out ?_)
    | (with_reducible refine wpL_box89 rfl _ rfl Z rfl ?_))
  have hB := (Below.refl w.heap.size w).alloc (Nat.le_refl _) (.cells Z 89)
  have hF := heap_alloc_new w (.cells Z 89)
  generalize w.alloc (.cells Z 89) = W at *
  go_loopw [2, 6] (fun x i wr => ∃ (k : Nat) (cur : Array Value), k ≤ 255 ∧ x = .int .u8 (V8 (pw k)) ∧ i = .int .i64 k ∧ FT k cur ∧ wr.heap[w.heap.size]? = some (.cells cur 89 (0, 0)) ∧ Below w.heap.size w wr) (fun _ i _ => (255 - intOf i).toNat)
  case atStart => exact ⟨0, Z, by omega, rfl, rfl, h0, hF, hB⟩
  case round =>
    obtain ⟨k, cur, hk, rfl, rfl, hft, hrow, hBr⟩ := hrel
    by_cases hlt : k < 255
    · have hlt' : (k : Int) < 255 := by omega
      have hs := hft.size
      have c1 : ∃ u, wr.cell? ⟨w.heap.size, k, none⟩ = some u := ⟨_, (cell_of_row wr _ k _ _ _ hrow).trans (Array.getElem?_eq_getElem (by omega))⟩
      have c2 : ∃ u, wr.cell? ⟨w.heap.size, k + 255, none⟩ = some u := ⟨_, (cell_of_row wr _ (k + 255) _ _ _ hrow).trans (Array.getElem?_eq_getElem (by omega))⟩
      have hx := (pw k).toNat_lt
      have c3 : ∃ u, wr.cell? ⟨w.heap.size, 510 + (pw k).toNat, none⟩ = some u := ⟨_, (cell_of_row wr _ (510 + (pw k).toNat) _ _ _ hrow).trans (Array.getElem?_eq_getElem (by omega))⟩
      obtain ⟨u1, c1⟩ := c1
      obtain ⟨u2, c2⟩ := c2
      obtain ⟨u3, c3⟩ := c3
      have f1 := frozen_of_row wr w.heap.size k _ _ hrow
      have f2 := frozen_of_row wr w.heap.size (k + 255) _ _ hrow
      have f3 := frozen_of_row wr w.heap.size (510 + (pw k).toNat) _ _ hrow
      have HFT := Lib.hid (hft.step hlt)
      have HR := Lib.hid hrow
      have hv0 := V8_nn (pw k)
      have hv1 := V8_lt (pw k)
      have hvn : (V8 (pw k)).toNat = (pw k).toNat := by unfold V8; rfl
      rw [← hvn] at c3 f3
      replace hvn := Lib.hid hvn
      have Hk : Hid (k + 1 ≤ 255) := hlt
      clear hft hrow hs hlt
      go_wp2
      go_region
      all_goals go_wp2_with (go_at_call 59; refine (slow3_any _ (pw k)).mono ?_; rintro e w' ⟨rfl, rfl⟩)
      have r1 := heap_setCell_same wr w.heap.size k cur 89 (.int .u8 (V8 (pw k))) HR.out
      have r2 := heap_setCell_same _ w.heap.size (k + 255) _ 89 (.int .u8 (V8 (pw k))) r1
      have r3 := heap_setCell_same _ w.heap.size (510 + (V8 (pw k)).toNat) _ 89 (.int .i64 (k : Int)) r2
      have hb3 := ((hBr.setCell (p := ⟨w.heap.size, k, none⟩) (Nat.le_refl _) (.int .u8 (V8 (pw k)))).setCell (p := ⟨w.heap.size, k + 255, none⟩) (Nat.le_refl _) (.int .u8 (V8 (pw k)))).setCell (p := ⟨w.heap.size, 510 + (V8 (pw k)).toNat, none⟩) (Nat.le_refl _) (.int .i64 (k : Int))
      have hft := HFT.out
      rw [← hvn.out] at hft
      exact ⟨⟨k + 1, _, Hk.out, rfl, by simp, hft, r3, below_drewN hb3 1⟩, by simp [intOf]; omega⟩
    · obtain rfl : k = 255 := by omega
      clear hlt hk
      go_wp2
      go_ret
      exact ⟨rfl, hft.done hrow, hBr⟩
end Go.Proofs.Ytllnocffmlagjaa
