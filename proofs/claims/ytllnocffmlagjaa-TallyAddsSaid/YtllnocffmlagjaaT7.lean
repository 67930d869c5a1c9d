/- Contract of tally.Way; law32.TallyTrees returns true and turns nothing that lay. Conditions: its arguments read as byte slices and a number. -/
import Derived.Test.YtllnocffmlagjaaT6
set_option linter.unusedVariables false
namespace Go.Proofs.Ytllnocffmlagjaa
open Go.RowKit
attribute [local go_sem] flowAt flowUpon

theorem Few32.small {ps : List (List UInt8)} (h : Few32 ps) : Small ps := ⟨h.1, fun i hi => Nat.le_trans (h.2 i hi) (by decide)⟩

set_option maxRecDepth 100000 in
set_option maxHeartbeats 1000000 in
theorem way2_bad (w : World) (v : Value) (ps : List (List UInt8)) (I : Int) (hp : Parts w v ps) (h : I < 0 ∨ (ps.length : Int) ≤ I) :
    Calls Try.prog 26 #[v, .int .i64 I] w fun e w' => e = .returned (.tuple #[.slice none 0 0, .int .i64 2]) ∧ w' = w := by
  obtain ⟨a, cap, rfl, hc, hm, _⟩ := hp.shape
  have hnm : ps.length ≤ 9223372036854775807 := Nat.le_trans hc hm
  generalize ps.length = n at *
  clear hp hc hm
  by_cases h0 : I < 0
  · clear h
    go_enter Try.func26, Try.ntmps26
    go_wp2
    go_ret2
    exact ⟨rfl, rfl⟩
  · have h1 : (n : Int) ≤ I := by omega
    clear h
    go_enter Try.func26, Try.ntmps26
    go_wp2
    go_ret2
    exact ⟨rfl, rfl⟩

set_option maxRecDepth 100000 in
set_option maxHeartbeats 1000000 in
theorem way2_ok (w : World) (v : Value) (ps : List (List UInt8)) (i : Nat) (hp : Parts w v ps) (hs : Small ps) (h : i < ps.length) :
    Calls Try.prog 26 #[v, .int .i64 i] w fun e w' => ∃ r, e = .returned (.tuple #[r, .int .i64 0]) ∧ OP w w' r (wayF 20 ps i) := by
  obtain ⟨a, cap, rfl, hc, hm, _⟩ := hp.shape
  have hw := way_any 20 w _ ps i hs.1 hs hp h (by omega)
  generalize wayF 20 ps i = W at *
  have hl := hs.1
  generalize ps.length = n at *
  have h0 : (0 : Int) ≤ i := by omega
  have h1 : (i : Int) < n := by omega
  clear hp hc hm hs h hl
  go_enter Try.func26, Try.ntmps26
  go_wp2_with (go_at_call 73; refine hw.mono ?_; rintro e w1 ⟨r, rfl, hO⟩; clear hw)
  go_ret2
  exact ⟨_, rfl, hO⟩

set_option maxRecDepth 100000 in
set_option maxHeartbeats 2000000 in
theorem tallyTrees_any (w : World) (v : Value) (ps : List (List UInt8)) (I : Int) (hp : Parts w v ps) (hI : -9223372036854775808 ≤ I ∧ I ≤ 9223372036854775807) :
    Calls Try.prog 6 #[v, .int .i64 I] w fun e w' => e = .returned (.bool true) ∧ Below w.heap.size w w' := by
  obtain ⟨a, cap, rfl, hc, hm, _⟩ := hp.shape
  have hnm : ps.length ≤ 9223372036854775807 := Nat.le_trans hc hm
  obtain ⟨n, hn⟩ : ∃ n, ps.length = n := ⟨_, rfl⟩
  have HN := Lib.hid hn
  rw [hn] at hp hnm hc ⊢
  have HV := Lib.hid hp
  have HB := Lib.hid (Below.refl w.heap.size w)
  have HI := Lib.hid hI
  clear hp hn
  by_cases hf : Few32 ps
  · have HF := Lib.hid hf
    have hn20 : n ≤ 20 := by have := hf.1; have := HN.out; omega
    have hn20' : (n : Int) ≤ 20 := by omega
    clear hf
    go_enter Try.func6, Try.ntmps6
    go_wp2_with (first
      | (go_at_call 22; refine (lives32 _).mono ?_; rintro e w1 ⟨rfl, hB⟩; replace HB := Lib.hid (below_then HB.out HB.out.size hB); clear hB)
      | (go_at_call 23; refine (few32_yes _ _ ps (HV.out.below HB.out) HF.out).mono ?_; rintro e w2 ⟨rfl, rfl⟩))
    have hV2 := HV.out.below HB.out
    refine wp_flowC 7 (by kernel_rfl) (by kernel_rfl) (fun w' => Parts w' (.slice a n cap) ps ∧ Below w.heap.size w w')
      (lives_and (lives_parts' _ _) (lives_below _)) ⟨hV2, HB.out⟩ ?_
    simp only [List.take_succ_cons, List.take_zero, List.drop_succ_cons, List.drop_zero]
    refine' flow_D0 rfl (fun ν w2 hC hD => ?_) ?_; rotate_left
    · clear hC hD; go_simp; exact ⟨Below.refl _ _, rfl⟩
    simp only [Act.put, List.setIfInBounds_toArray, List.set_cons_zero, List.set_cons_succ]
    refine' flow_N0 (fun u w' => Sl w' u (bv (treeF 20 ps))) (fun _ => lives_sl _ _) rfl (fun ν w2 hC hD => ?_) ?_
    · have hs := ret_of (tree_any 20 w2 _ ps (by rw [HN.out]; omega) HF.out.small hC.1)
      clear hC hD; go_simp; exact Below.refl _ _
    simp only [Act.put, List.setIfInBounds_toArray, List.set_cons_zero, List.set_cons_succ]
    refine' flow_D0 (e := .string (strOfNums ((treeF 20 ps).map V8))) rfl (fun ν w2 hC hD => ?_) ?_
    · have hs := conv_str w2 _ _ (hD.2 (by kernel_rfl))
      clear hC hD
      go_simp; exact ⟨Below.refl _ _, rfl⟩
    simp only [Act.put, List.setIfInBounds_toArray, List.set_cons_zero, List.set_cons_succ]
    refine' flow_D0 rfl (fun ν w2 hC hD => ?_) ?_; rotate_left
    · clear hC hD; go_simp; exact ⟨Below.refl _ _, rfl⟩
    simp only [Act.put, List.setIfInBounds_toArray, List.set_cons_zero, List.set_cons_succ]
    refine' flow_N0 (fun u w' => Sl w' u (bv (treeF 20 ps))) (fun _ => lives_sl _ _) rfl (fun ν w2 hC hD => ?_) ?_
    · have hs := ret_of (rtree_any 20 w2 _ ps (by rw [HN.out]; omega) HF.out.small hC.1)
      clear hC hD; go_simp; exact Below.refl _ _
    simp only [Act.put, List.setIfInBounds_toArray, List.set_cons_zero, List.set_cons_succ]
    refine' flow_D0 (e := .string (strOfNums ((treeF 20 ps).map V8))) rfl (fun ν w2 hC hD => ?_) ?_
    · have hs := conv_str w2 _ _ (hD.2 (by kernel_rfl))
      clear hC hD
      go_simp; exact ⟨Below.refl _ _, rfl⟩
    simp only [Act.put, List.setIfInBounds_toArray, List.set_cons_zero, List.set_cons_succ]
    refine' flow_D0 rfl (fun ν w2 hC hD => ?_) ?_; rotate_left
    · clear hC hD; go_simp; exact ⟨Below.refl _ _, rfl⟩
    simp only [Act.put, List.setIfInBounds_toArray, List.set_cons_zero, List.set_cons_succ]
    refine flow_nil ?_
    intro ν w3 hC hG
    have HP3 := Lib.hid hC.1
    have HB3 := Lib.hid hC.2
    clear hC hG hV2 HB
    by_cases hbad : I < 0 ∨ (n : Int) ≤ I
    · by_cases h0 : I < 0
      · clear hbad
        go_wp2_with (go_at_call 26; refine (way2_bad _ _ ps I HP3.out (.inl h0)).mono ?_; rintro e w4 ⟨rfl, rfl⟩)
        go_ret
        exact ⟨rfl, HB3.out⟩
      · have h1 : (n : Int) ≤ I := by omega
        clear hbad
        go_wp2_with (go_at_call 26; refine (way2_bad _ _ ps I HP3.out (.inr (by rw [HN.out]; exact h1))).mono ?_; rintro e w4 ⟨rfl, rfl⟩)
        go_ret
        exact ⟨rfl, HB3.out⟩
    · obtain ⟨i, rfl⟩ : ∃ i : Nat, I = i := ⟨I.toNat, by omega⟩
      have h0 : (0 : Int) ≤ i := by omega
      have h1 : (i : Int) < n := by omega
      have hin : Hid (i < ps.length) := by rw [Hid, HN.out]; omega
      clear hbad
      go_wp2_with (first
        | (go_at_call 27; refine (same32_any _ _ _ _ (hO4.later hO5.below).parts hO5.parts (by have := wayF_len 20 ps i; omega)).mono ?_; rintro e w6 ⟨rfl, hB6⟩)
        | (go_at_call 28; refine (rway_any 20 w4 _ ps i (by rw [HN.out]; omega) HF.out.small (HP3.out.below hO4.below) hin.out (by omega)).mono ?_; rintro e w5 ⟨r5, rfl, hO5⟩; obtain ⟨A5, c5, rfl⟩ := hO5.shape)
        | (go_at_call 26; refine (way2_ok w3 _ ps i HP3.out HF.out.small hin.out).mono ?_; rintro e w4 ⟨r4, rfl, hO4⟩; obtain ⟨A4, c4, rfl⟩ := hO4.shape))
      go_ret
      have q1 := below_then HB3.out HB3.out.size hO4.below
      have q2 := below_then q1 q1.size hO5.below
      exact ⟨rfl, below_then q2 q2.size hB6⟩
  · have HF := Lib.hid hf
    clear hf
    go_enter Try.func6, Try.ntmps6
    go_wp2_with (first
      | (go_at_call 22; refine (lives32 _).mono ?_; rintro e w1 ⟨rfl, hB⟩; replace HB := Lib.hid (below_then HB.out HB.out.size hB); clear hB)
      | (go_at_call 23; refine (few32_no _ _ ps (HV.out.below HB.out) HF.out).mono ?_; rintro e w2 ⟨rfl, rfl⟩))
    go_ret
    exact ⟨rfl, HB.out⟩
end Go.Proofs.Ytllnocffmlagjaa
