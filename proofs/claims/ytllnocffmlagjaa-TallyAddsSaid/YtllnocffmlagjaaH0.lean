/- Contract of hash.plan: the words of the rounds of a block. Conditions: a block of 64 bytes. -/
import Derived.Test.YtllnocffmlagjaaF2
import Derived.Test.YtllnocffmlagjaaM3
set_option linter.unusedVariables false
namespace Go.Proofs.Ytllnocffmlagjaa
open Go.RowKit
attribute [local go_sem] v32_xor v32_or v32_and v32_not v32_add v32_div8 v32_div1024
attribute [local go_sem] flowAt flowUpon

def lsig0 (x : UInt32) : UInt32 := rotr x 7 ^^^ rotr x 18 ^^^ x >>> 3
def lsig1 (x : UInt32) : UInt32 := rotr x 17 ^^^ rotr x 19 ^^^ x >>> 10
def nextW (m : List UInt8) (l : List UInt32) (k : Nat) : UInt32 :=
  if k < 16 then gw (m.getD (4 * k) 0) (m.getD (4 * k + 1) 0) (m.getD (4 * k + 2) 0) (m.getD (4 * k + 3) 0)
  else l.getD (k - 16) 0 + l.getD (k - 7) 0 + lsig0 (l.getD (k - 15) 0) + lsig1 (l.getD (k - 2) 0)
def wl (m : List UInt8) : Nat → List UInt32
  | 0 => []
  | k + 1 => wl m k ++ [nextW m (wl m k) k]
theorem wl_length (m : List UInt8) (k : Nat) : (wl m k).length = k := by induction k with | zero => rfl | succ k ih => simp [wl, ih]
def wv (l : List UInt32) : List Value := l.map fun x => .int .u32 (V32 x)
def arr64 (l : List UInt32) : Array Value := (wv l ++ List.replicate (64 - l.length) (Value.int .u32 0)).toArray
theorem arr64_size (l : List UInt32) (h : l.length ≤ 64) : (arr64 l).size = 64 := by simp [arr64, wv]; omega
theorem arr64_at (l : List UInt32) (j : Nat) (h : j < l.length) : (arr64 l)[j]? = some (.int .u32 (V32 (l.getD j 0))) := by
  unfold arr64 wv
  rw [List.getElem?_toArray, List.getElem?_append_left (by simpa using h)]
  simp [h, List.getD_eq_getElem?_getD]
theorem arr64_one (l : List UInt32) : ∀ u ∈ (arr64 l).toList, u.oneCell' = true := by
  intro u hu
  simp only [arr64, wv, List.mem_append, List.mem_map, List.mem_replicate] at hu
  rcases hu with ⟨x, _, rfl⟩ | ⟨_, rfl⟩ <;> rfl
theorem arr64_push (l : List UInt32) (x : UInt32) (h : l.length < 64) : (arr64 l).setIfInBounds l.length (.int .u32 (V32 x)) = arr64 (l ++ [x]) := by
  unfold arr64 wv
  rw [List.setIfInBounds_toArray]
  congr 1
  have e : 64 - l.length = (64 - (l ++ [x]).length) + 1 := by simp; omega
  rw [e, List.replicate_succ, List.map_append]
  simp

/-- The plan's loop: block B of the call's own holds the first k words. -/
structure PlanAt (m : List UInt8) (w : World) (k : Nat) (wr : World) : Prop where
  arr : wr.heap[w.heap.size + 1]? = some (.cells (arr64 (wl m k)) 80 (0, 0))
  res : wr.heap[w.heap.size]? = some (.cells (arr64 []) 80 (0, 0))
  below : Below w.heap.size w wr
theorem PlanAt.cell {m : List UInt8} {w wr : World} {k : Nat} (h : PlanAt m w k wr) (j : Nat) (hj : j < k) : wr.cell? ⟨w.heap.size + 1, j, none⟩ = some (.int .u32 (V32 ((wl m k).getD j 0))) := by
  rw [cell_of_row wr _ j _ 80 (0, 0) h.arr, arr64_at _ _ (by rw [wl_length]; exact hj)]
theorem PlanAt.step {m : List UInt8} {w wr : World} {k : Nat} (h : PlanAt m w k wr) (hk : k < 64) : PlanAt m w (k + 1) (wr.setCell ⟨w.heap.size + 1, k, none⟩ (.int .u32 (V32 (nextW m (wl m k) k)))) := by
  refine ⟨?_, ?_, h.below.setCell (by simp) _⟩
  · rw [heap_setCell_same _ _ _ _ _ _ h.arr]
    have := arr64_push (wl m k) (nextW m (wl m k) k) (by rw [wl_length]; exact hk)
    rw [wl_length] at this
    rw [this]; rfl
  · rw [heap_setCell_other _ _ _ _ (by simp)]; exact h.res
theorem PlanAt.later {m : List UInt8} {w wr w' : World} {k : Nat} (h : PlanAt m w k wr) (hb : Below wr.heap.size wr w') : PlanAt m w k w' :=
  ⟨lives_block _ _ _ _ h.arr hb, lives_block _ _ _ _ h.res hb, below_then h.below h.below.size hb⟩

theorem PlanAt.free {m : List UInt8} {w wr : World} {k : Nat} (h : PlanAt m w k wr) (hk : k < 64) :
    (∃ u, wr.cell? ⟨w.heap.size + 1, k, none⟩ = some u) ∧ wr.frozen? ⟨w.heap.size + 1, k, none⟩ = false := by
  refine ⟨?_, frozen_of_row wr _ _ _ 80 h.arr⟩
  rw [cell_of_row wr _ k _ 80 (0, 0) h.arr]
  have := arr64_size (wl m k) (by rw [wl_length]; omega)
  exact ⟨_, Array.getElem?_eq_getElem (by omega)⟩
theorem Rd.drop {w : World} {b o : Nat} {m : List UInt8} (h : Rd w (some ⟨b, o, none⟩) (bv m)) (l : Nat) : Rd w (some ⟨b, o + l, none⟩) (bv (m.drop l)) := by
  intro i hi
  rw [bv_length, List.length_drop] at hi
  obtain ⟨b', o', e, hc⟩ := h (l + i) (by rw [bv_length]; omega)
  cases e
  refine ⟨b, o + l, rfl, ?_⟩
  rw [Nat.add_assoc, hc, bv_getD _ _ (by omega), bv_getD _ _ (by rw [List.length_drop]; omega)]
  simp [List.getD_eq_getElem?_getD, List.getElem?_drop]
set_option maxHeartbeats 400000 in
theorem plan_any (w : World) (v : Value) (m : List UInt8) (hv : Sl w v (bv m)) (h64 : m.length = 64) :
    Calls Try.prog 87 #[v] w fun e w' => e = .returned (.agg (arr64 (wl m 64))) ∧ Below w.heap.size w w' := by
  have H64 := Lib.hid h64
  clear h64
  go_enter Try.func87, Try.ntmps87
  go_wp2
  go_loopw [4, 5, 6, 7] (fun _ _ _ i wr => ∃ k : Nat, k ≤ 64 ∧ i = .int .i64 k ∧ PlanAt m w k wr) (fun _ _ _ i _ => (64 - intOf i).toNat)
  case atStart => exact ⟨0, by omega, rfl, ⟨heap_alloc2_new w _ _, heap_alloc2_old w _ _, ((Below.refl _ w).alloc (Nat.le_refl _) _).alloc (by simp) _⟩⟩
  case round =>
    obtain ⟨k, hk, rfl, hP⟩ := hrel
    by_cases hlt : k < 64
    · have hlt' : (k : Int) < 64 := by omega
      by_cases h16 : k < 16
      · have h16' : (k : Int) < 16 := by omega
        have hv' := hv.below hP.below
        obtain ⟨a, cap, rfl, h1, h2, h3, hr⟩ := hv'.openB
        obtain ⟨b, o, rfl, _⟩ := hr.byte 0 (by rw [H64.out]; omega)
        have hne : ¬ cap = 4 * k := by have := H64.out; omega
        have hl64 : m.length ≤ 64 := by rw [H64.out]; omega
        have hl64' : 64 ≤ m.length := by rw [H64.out]; omega
        have hsl : Sl wr (.slice (some ⟨b, o + 4 * k, none⟩) (m.length - 4 * k) (cap - 4 * k)) (bv (m.drop (4 * k))) :=
          ⟨_, _, by rw [bv_length, List.length_drop], by rw [bv_length, List.length_drop]; omega, by omega, by simp, hr.drop _⟩
        have hg := get32_any wr _ _ hsl (by rw [List.length_drop]; omega)
        have hn : Hid (gw ((m.drop (4 * k)).getD 0 0) ((m.drop (4 * k)).getD 1 0) ((m.drop (4 * k)).getD 2 0) ((m.drop (4 * k)).getD 3 0) = nextW m (wl m k) k) := by
          rw [nextW, if_pos h16]; simp [Hid, List.getD_eq_getElem?_getD, List.getElem?_drop]
        rw [hn.out] at hg
        have HS := Lib.hid (hP.step hlt)
        obtain ⟨⟨u, c1⟩, c2⟩ := hP.free hlt
        generalize nextW m (wl m k) k = X at *
        clear hsl hr h1 h2 h3 hn
        go_wp2_with (go_at_call 100; refine hg.mono ?_; rintro e w' ⟨rfl, rfl⟩)
        exact ⟨⟨k + 1, by omega, by go_num, HS.out⟩, by simp [intOf]; omega⟩
      · have h16' : (16 : Int) ≤ k := by omega
        have HS := Lib.hid (hP.step hlt)
        have c15 := hP.cell (k - 15) (by omega)
        have c2 := hP.cell (k - 2) (by omega)
        have c16 := hP.cell (k - 16) (by omega)
        have c7 := hP.cell (k - 7) (by omega)
        have hn : Hid (nextW m (wl m k) k = (wl m k).getD (k - 16) 0 + (wl m k).getD (k - 7) 0 + lsig0 ((wl m k).getD (k - 15) 0) + lsig1 ((wl m k).getD (k - 2) 0)) := by
          rw [nextW, if_neg h16]; rfl
        generalize (wl m k).getD (k - 15) 0 = X15 at *
        generalize (wl m k).getD (k - 2) 0 = X2 at *
        generalize (wl m k).getD (k - 16) 0 = X16 at *
        generalize (wl m k).getD (k - 7) 0 = X7 at *
        go_wp2
        go_quiet (fail)
        go_wp2
        have e1 : IntKind.i64.wrap ((k : Int) - 16) = (k : Int) - 16 := IntWalk.i64_in _ (by omega)
        have e2 : IntKind.i64.wrap ((k : Int) - 7) = (k : Int) - 7 := IntWalk.i64_in _ (by omega)
        have e3 : ((k : Int) - 16).toNat = k - 16 := by omega
        have e4 : ((k : Int) - 7).toNat = k - 7 := by omega
        have e6 : (7 : Int) ≤ (k : Int) := by omega
        have e7 : (k : Int) - 16 < 64 := by omega
        have e8 : (k : Int) - 7 < 64 := by omega
        refine wp_flowC 29 (by kernel_rfl) (by kernel_rfl) (fun w' => PlanAt m w k w' ∧ w'.cell? ⟨w.heap.size + 1, k - 16, none⟩ = some (.int .u32 (V32 X16)) ∧ w'.cell? ⟨w.heap.size + 1, k - 7, none⟩ = some (.int .u32 (V32 X7)))
          (lives_and (fun _ _ h hb => h.later hb) (lives_and (lives_cell _ _) (lives_cell _ _))) ⟨hP.later (ext_drewN _ _), c16, c7⟩ ?_
        simp only [List.take_succ_cons, List.take_zero, List.drop_succ_cons, List.drop_zero]
        iterate 29
          refine' flow_D0 rfl (fun ν w2 hC hD => ?_) ?_
          rotate_left
          · have d16 := hC.2.1
            have d7 := hC.2.2
            clear hC hD
            go_simp
            first
              | exact ⟨Below.refl _ _, rfl⟩
              | (refine ⟨Below.refl _ _, ?_⟩
                 refine (turn_r _ _ _ (by rfl) (by decide) (by decide) _).mono ?_
                 rintro e w3 ⟨rfl, n1, rfl⟩
                 exact ⟨_, rfl, ext_drewN _ _, rfl⟩)
          simp only [Act.put, List.setIfInBounds_toArray, List.set_cons_zero, List.set_cons_succ]
        refine flow_nil ?_
        intro ν w2 hC hG
        obtain ⟨⟨u, d1⟩, d2⟩ := hC.1.free hlt
        have HS2 := hC.1.step hlt
        rw [hn.out] at HS2
        replace HS2 := Lib.hid HS2
        unfold lsig0 lsig1 at HS2
        clear hC hG e1 e2 e3 e4 e6 e7 e8 c15 c2 c16 c7 HS hP
        go_wp2
        exact ⟨⟨k + 1, by omega, by go_num, HS2.out⟩, by simp [intOf]; omega⟩
    · obtain rfl : k = 64 := by omega
      have hsz : (arr64 (wl m 64)).size = 64 := arr64_size _ (by rw [wl_length]; omega)
      have hss : (arr64 (wl m 64)).size = (arr64 []).size := by rw [hsz]; rfl
      have HL := hP.arr
      have HR := hP.res
      have HB := hP.below
      have HI : (Try.prog.info? 80).map (·.size) = some (arr64 (wl m 64)).size := by rw [hsz]; kernel_rfl
      have H1 := arr64_one (wl m 64)
      obtain ⟨W64, hW⟩ : ∃ W, Hid (arr64 (wl m 64) = W) := ⟨_, rfl⟩
      rw [hW.out] at hsz hss HL HI H1
      clear hP hlt hk H64 hv
      go_wp2_with (first
        | (with_reducible refine wpList_load_row rfl 80 _ rfl (w.heap.size + 1) rfl 80 W64 (0, 0) _ HL Try.underlying80 rfl HI ?_)
        | (with_reducible refine wpL_storeRow rfl 80 _ _ rfl w.heap.size rfl W64 rfl 80 _ HR hss HI H1 ?_))
      have HR2 := setRow_heap wr w.heap.size (arr64 []) W64 80 (0, 0) HR
      have HB2 := below_setRow HB (Nat.le_refl w.heap.size) W64
      generalize wr.setRow w.heap.size W64 = wz at *
      have hres : ∀ tmps : Array Value, tmps.getD 2 undef = .pointer (some ⟨w.heap.size, 0, none⟩) → (results Try.f87 tmps).run Try.prog wz = .ok (.agg W64) wz :=
        fun tmps ht => results_cell_row Try.results87 tmps wz w.heap.size 80 W64 (0, 0) (.array 64 72) ht HR2 Try.underlying80 rfl HI
      exact bodyPost_ret (hres _ rfl) rfl ⟨by rw [hW.out], HB2⟩
end Go.Proofs.Ytllnocffmlagjaa
