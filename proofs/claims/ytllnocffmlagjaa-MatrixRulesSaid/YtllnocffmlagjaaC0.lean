/- Contracts of slices.Grow (at nil) and slices.Concat on byte slices. Conditions: each theorem names its own. -/
import Derived.Test.YtllnocffmlagjaaM3
set_option linter.unusedVariables false
namespace Go.Proofs.Ytllnocffmlagjaa
open Go.RowKit

/-- The head of an own row, of length 0. -/
theorem own_empty {w : World} {base : Nat} {e : TypeId} {A : Option Addr} {n cap m : Nat} {xs : List Value} (h : w.ownsRow base e 1 (.slice A n cap) m xs) : w.ownsRow base e 1 (.slice A 0 cap) 0 [] := by
  rcases h.2 with ⟨h1, h2⟩ | ⟨g, cap', cur, h1, hb, hg, hc, hm, hs, ht⟩
  · cases h1; exact World.ownsRow_nil _ _ _ _
  · cases h1
    exact ⟨by simp, .inr ⟨g, cap, cur, rfl, hb, hg, by omega, hm, hs, by simp⟩⟩

set_option maxHeartbeats 400000 in
theorem grow_nil (w : World) (n : Nat) (hn : n ≤ 140737488355328) :
    Calls Try.prog 84 #[.slice none 0 0, .int .i64 n] w fun e w' => ∃ r, e = .returned r ∧ OB w w' r [] := by
  have hOB : OB w w (.slice none 0 0) [] := OB.nil (Below.refl _ _)
  obtain ⟨N, hN⟩ : ∃ N : Int, N = n := ⟨_, rfl⟩
  have n0 : 0 ≤ N := by omega
  have n1 : N ≤ 140737488355328 := by omega
  rw [← hN]
  by_cases hp : 0 < N
  · go_enter Try.func84, Try.ntmps84
    go_wp2_with (at_builtin; refine wpL_zeros w _ rfl _ _ rfl _ _ rfl hOB _ n (by omega) rfl n (by simp) (by omega) ?_; intro A cap w1 hO1)
    go_ret
    exact ⟨_, rfl, ⟨own_empty hO1.1, hO1.2⟩⟩
  · obtain rfl : N = 0 := by omega
    clear hp n0 n1
    go_enter Try.func84, Try.ntmps84
    go_wp2
    go_ret
    exact ⟨_, rfl, hOB⟩

/-! ### slices of byte slices -/
/-- v reads as slices that read as the parts pss. -/
def Parts (w : World) (v : Value) (pss : List (List UInt8)) : Prop :=
  ∃ vs, Sl w v vs ∧ vs.length = pss.length ∧ ∀ i, i < pss.length → Sl w (vs.getD i undef) (bv (pss.getD i []))
theorem Parts.below {w w' : World} {v : Value} {pss : List (List UInt8)} (h : Parts w v pss) (hb : Below w.heap.size w w') : Parts w' v pss := by
  obtain ⟨vs, h1, h2, h3⟩ := h
  exact ⟨vs, h1.below hb, h2, fun i hi => (h3 i hi).below hb⟩
theorem Parts.opened {w : World} {v : Value} {pss : List (List UInt8)} (h : Parts w v pss) :
    ∃ a cap, v = .slice a pss.length cap ∧ ∀ i, i < pss.length → ∃ b o u, a = some ⟨b, o, none⟩ ∧ w.cell? ⟨b, o + i, none⟩ = some u ∧ Sl w u (bv (pss.getD i [])) := by
  obtain ⟨vs, ⟨a, cap, rfl, _, _, _, hr⟩, h2, h3⟩ := h
  refine ⟨a, cap, by rw [h2], fun i hi => ?_⟩
  obtain ⟨b, o, ha, hc⟩ := hr i (by omega)
  exact ⟨b, o, _, ha, hc, h3 i hi⟩

/-- how many bytes the first k parts have -/
def tot (pss : List (List UInt8)) (k : Nat) : Nat := ((pss.take k).flatten).length
theorem take_snoc (pss : List (List UInt8)) (k : Nat) (h : k < pss.length) : (pss.take (k + 1)).flatten = (pss.take k).flatten ++ pss.getD k [] := by
  rw [List.take_succ_eq_append_getElem h, List.flatten_append, List.getD_eq_getElem?_getD, List.getElem?_eq_getElem h]; simp
theorem tot_succ (pss : List (List UInt8)) (k : Nat) (h : k < pss.length) : tot pss (k + 1) = tot pss k + (pss.getD k []).length := by
  unfold tot; rw [take_snoc _ _ h, List.length_append]
theorem tot_all (pss : List (List UInt8)) : tot pss pss.length = pss.flatten.length := by unfold tot; rw [List.take_length]
theorem tot_le (pss : List (List UInt8)) (k : Nat) : tot pss k ≤ pss.flatten.length := by
  have : pss.flatten = (pss.take k).flatten ++ (pss.drop k).flatten := by rw [← List.flatten_append, List.take_append_drop]
  unfold tot; rw [this, List.length_append]; omega

set_option maxHeartbeats 400000 in
theorem concat_any (w : World) (v : Value) (pss : List (List UInt8)) (hv : Parts w v pss) (hl : pss.flatten.length ≤ 140737488355000) (hn : pss.length ≤ 140737488355000) :
    Calls Try.prog 49 #[v] w fun e w' => ∃ r, e = .returned r ∧ OB w w' r pss.flatten := by
  obtain ⟨a, cap, rfl, hc⟩ := hv.opened
  have ht := fun k h => (⟨tot_succ pss k h, tot_le pss (k + 1)⟩ : _ ∧ _)
  have hf := fun k h => take_snoc pss k h
  have ha := tot_all pss
  have hz := List.take_length (l := pss)
  generalize pss.length = n at *
  have HC := Lib.hid hc
  have HT := Lib.hid ht
  have HF := Lib.hid hf
  have HA := Lib.hid ha
  have HE := Lib.hid hl
  have HZ := Lib.hid hz
  clear hc hv hl ht hf ha hz
  go_enter Try.func49, Try.ntmps49
  go_wp2
  go_loop [3, 5, 11, 12, 13, 14, 15, 16, 17, 18, 19, 20, 22] (fun s _ i _ _ _ _ _ _ _ _ _ _ => ∃ (k : Nat) (S : Int), k ≤ n ∧ Hid (S = (tot pss k : Nat)) ∧ s = .int .i64 S ∧ i = .int .i64 k) (fun _ _ i _ _ _ _ _ _ _ _ _ _ => (n - intOf i).toNat)
  case atStart => exact ⟨0, 0, by omega, rfl, rfl, rfl⟩
  case round =>
    obtain ⟨k, S, hk, hS, rfl, rfl⟩ := hrel
    by_cases hlt : k < n
    · obtain ⟨b, o, u, rfl, hcell, hsl⟩ := HC.out k hlt
      obtain ⟨a1, c1, rfl, _, _, _, _⟩ := hsl.openB
      obtain ⟨t1, t2⟩ := HT.out k (by omega)
      have hlt' : (k : Int) < n := by omega
      have S0 : 0 ≤ S := by rw [hS.out]; omega
      have S1 : S + ((pss.getD k []).length : Int) ≤ 140737488355000 := by rw [hS.out]; have := HE.out; omega
      have S2 : Hid (S + ((pss.getD k []).length : Int) = (tot pss (k + 1) : Nat)) := by rw [Hid, hS.out, t1]; omega
      generalize (pss.getD k []).length = m at *
      clear t1 t2
      go_wp2
      go_round
      case rel => exact ⟨k + 1, _, by omega, S2, rfl, by go_num⟩
      case measure => simp [intOf]; omega
    · obtain rfl : k = n := by omega
      have S0 : 0 ≤ S := by rw [hS.out]; omega
      have S1 : S ≤ 140737488355000 := by rw [hS.out, HA.out]; have := HE.out; omega
      have hgr := grow_nil w (tot pss k) (by rw [HA.out]; have := HE.out; omega)
      rw [← hS.out] at hgr
      clear hlt hk
      go_wp2_with (go_at_call 84; refine hgr.mono ?_; rintro e w1 ⟨r, rfl, hO1⟩)
      clear hgr hS S0 S1
      go_loopw [6, 8, 27] (fun out _ i wr => ∃ (j : Nat) (cs : List UInt8), j ≤ k ∧ Hid (cs = (pss.take j).flatten) ∧ Hid (cs.length = tot pss j) ∧ i = .int .i64 j ∧ OB w wr out cs) (fun _ _ i _ => (k - intOf i).toNat)
      case atStart => exact ⟨0, [], by omega, rfl, rfl, rfl, hO1⟩
      case round =>
        obtain ⟨j, cs, hj, hcs, hcl, rfl, hOB⟩ := hrel
        by_cases hlt : j < k
        · obtain ⟨b, o, u, rfl, hcell, hsl⟩ := HC.out j hlt
          obtain ⟨t1, t2⟩ := HT.out j hlt
          obtain ⟨A, cap1, rfl⟩ := hOB.shape
          replace hcell := (hOB.2.cell (World.block_lt_of_cell? w _ hcell)).trans hcell
          replace hsl := hsl.below hOB.2
          have hlt' : (j : Int) < k := by omega
          have hlen : cs.length + (pss.getD j []).length ≤ 140737488355000 := by rw [hcl.out]; have := HE.out; omega
          have hcs2 : Hid (cs ++ pss.getD j [] = (pss.take (j + 1)).flatten) := by rw [Hid, HF.out j hlt, hcs.out]
          have hcl2 : Hid ((cs ++ pss.getD j []).length = tot pss (j + 1)) := by rw [Hid, t1, List.length_append, hcl.out]
          obtain ⟨a1, c1, rfl, _, _, _, _⟩ := hsl.openB
          generalize pss.getD j [] = ys at *
          clear t1 t2
          go_wp2_with (at_builtin; refine wpL_cat w _ rfl _ _ rfl _ _ rfl hOB _ _ rfl hsl _ rfl (by omega) ?_; intro A2 cap2 w3 hO3)
          go_roundw
          case rel => exact ⟨j + 1, _, by omega, hcs2, hcl2, by go_num, hO3⟩
          case measure => simp [intOf]; omega
        · obtain rfl : j = k := by omega
          clear hlt hj
          go_wp2
          go_ret
          refine ⟨_, rfl, ?_⟩
          rw [hcs.out, HZ.out] at hOB
          exact hOB
end Go.Proofs.Ytllnocffmlagjaa
