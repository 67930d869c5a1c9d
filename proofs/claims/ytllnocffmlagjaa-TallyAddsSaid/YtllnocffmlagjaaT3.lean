/- Contract of ref32.Tree. Conditions: at most 20 items, each within 1000 bytes. -/
import Derived.Test.YtllnocffmlagjaaT2
set_option linter.unusedVariables false
namespace Go.Proofs.Ytllnocffmlagjaa
open Go.RowKit
attribute [local go_sem] flowAt flowUpon
theorem Sl.nilB (w : World) : Sl w (.slice none 0 0) (bv []) := ⟨none, 0, rfl, Nat.le_refl _, by simp [maxLen], fun _ => rfl, Rd.nil⟩
set_option maxRecDepth 100000 in
set_option maxHeartbeats 1000000 in
theorem rtree_any : ∀ (f : Nat) (w : World) (v : Value) (ps : List (List UInt8)), ps.length ≤ f → Small ps → Parts w v ps →
    Calls Try.prog 25 #[v] w fun e w' => ∃ r, e = .returned r ∧ OB w w' r (treeF f ps) := by
  intro f
  induction f with
  | zero =>
    intro w v ps hf hs hp
    obtain ⟨a, cap, rfl, hc, hm, _⟩ := hp.shape
    obtain rfl : ps = [] := List.eq_nil_of_length_eq_zero (by omega)
    have hc := rsum_any w _ [] (Sl.nilB w) (by simp)
    go_enter Try.func25, Try.ntmps25
    go_wp2_with (go_at_call 14; refine hc.mono ?_; rintro e w1 ⟨r, rfl, hO⟩; clear hc)
    go_ret
    exact ⟨_, rfl, hO⟩
  | succ f ih =>
    intro w v ps hf hs hp
    obtain ⟨a, cap, rfl, hc, hm, hne⟩ := hp.shape
    unfold treeF
    by_cases h0 : ps.length = 0
    · obtain rfl : ps = [] := List.eq_nil_of_length_eq_zero h0
      rw [if_pos h0]
      have hc := rsum_any w _ [] (Sl.nilB w) (by simp)
      clear ih hf hs hp hne hm
      go_enter Try.func25, Try.ntmps25
      go_wp2_with (go_at_call 14; refine hc.mono ?_; rintro e w1 ⟨r, rfl, hO⟩; clear hc)
      go_ret
      exact ⟨_, rfl, hO⟩
    · rw [if_neg h0]
      obtain ⟨b, o, rfl⟩ := hne (by omega)
      by_cases h1 : ps.length = 1
      · rw [if_pos h1]
        obtain ⟨_, _, he, hcell⟩ := hp.opened
        cases he
        obtain ⟨b', o', u, e, hcu, hsu⟩ := hcell 0 (by omega)
        cases e
        have hi := ritem_any w u _ hsu (by have := hs.2 0 (by omega); omega)
        rw [Nat.add_zero] at hcu
        rw [h1] at hc ⊢
        generalize leafH (ps.getD 0 []) = L at *
        clear ih hf hs hp hne hcell hsu h0 h1
        go_enter Try.func25, Try.ntmps25
        go_wp2_with (go_at_call 70; refine hi.mono ?_; rintro e w1 ⟨r, rfl, hO⟩; clear hi)
        go_ret
        exact ⟨_, rfl, hO⟩
      · rw [if_neg h1]
        obtain ⟨n, hn⟩ : ∃ n, ps.length = n := ⟨_, rfl⟩
        obtain ⟨k, hk⟩ : ∃ k, lf n = k := ⟨_, rfl⟩
        rw [hn] at h0 h1 hc hf hne hp ⊢
        rw [hk]
        have h20 : n ≤ 20 := by have := hs.1; omega
        obtain ⟨k1, kn, k16, _, _, _⟩ := lf_table n (by omega) (by omega)
        rw [hk] at k1 kn k16
        have hl := rleft_any w n (by omega) h20
        rw [hk] at hl
        have HN := Lib.hid hn
        have HF := Lib.hid hf
        have HS := Lib.hid hs
        have HIH := Lib.hid ih
        have HP := Lib.hid hp
        have n0 : ¬ ((n : Int) = 0) := by omega
        have n1 : ¬ ((n : Int) = 1) := by omega
        have kc : (k : Int) ≤ cap := by omega
        have kn' : (k : Int) ≤ n := by omega
        have knc : ¬ cap = k := by omega
        clear ih hs hp hne hf hn hk h0 h1
        go_enter Try.func25, Try.ntmps25
        go_wp2_with (go_at_call 71; refine hl.mono ?_; rintro e w1 ⟨rfl, rfl⟩; clear hl)
        refine wp_flowC 9 (by kernel_rfl) (by kernel_rfl) (fun w' => Parts w' (.slice (some ⟨b, o, none⟩) n cap) ps ∧ Below w1.heap.size w1 w')
          (lives_and (lives_parts' _ _) (lives_below _)) ⟨HP.out, Below.refl _ _⟩ ?_
        simp only [List.take_succ_cons, List.take_zero, List.drop_succ_cons, List.drop_zero]
        iterate 2
          refine' flow_D0 rfl (fun ν w2 hC hD => ?_) ?_; rotate_left
          · clear hC hD; go_simp; exact ⟨Below.refl _ _, rfl⟩
          simp only [Act.put, List.setIfInBounds_toArray, List.set_cons_zero, List.set_cons_succ]
        refine' flow_D0 (e := .slice (some ⟨b, o, none⟩) k cap) rfl (fun ν w2 hC hD => ?_) ?_
        · clear hC hD; go_simp; exact ⟨Below.refl _ _, rfl⟩
        simp only [Act.put, List.setIfInBounds_toArray, List.set_cons_zero, List.set_cons_succ]
        refine' flow_N0 (fun u w' => Sl w' u (bv (treeF f (ps.take k)))) (fun _ => lives_sl _ _) rfl (fun ν w2 hC hD => ?_) ?_
        · have hs := ret_of (HIH.out w2 _ (ps.take k) (by rw [List.length_take]; have := HF.out; have := HN.out; omega) (HS.out.take k) (hC.1.take k (by omega)))
          clear hC hD; go_simp; exact Below.refl _ _
        simp only [Act.put, List.setIfInBounds_toArray, List.set_cons_zero, List.set_cons_succ]
        iterate 2
          refine' flow_D0 rfl (fun ν w2 hC hD => ?_) ?_; rotate_left
          · clear hC hD; go_simp; exact ⟨Below.refl _ _, rfl⟩
          simp only [Act.put, List.setIfInBounds_toArray, List.set_cons_zero, List.set_cons_succ]
        refine' flow_D0 (e := .slice (some ⟨b, o + k, none⟩) (n - k) (cap - k)) rfl (fun ν w2 hC hD => ?_) ?_
        · clear hC hD; go_simp; exact ⟨Below.refl _ _, rfl⟩
        simp only [Act.put, List.setIfInBounds_toArray, List.set_cons_zero, List.set_cons_succ]
        refine' flow_N0 (fun u w' => Sl w' u (bv (treeF f (ps.drop k)))) (fun _ => lives_sl _ _) rfl (fun ν w2 hC hD => ?_) ?_
        · have hs := ret_of (HIH.out w2 _ (ps.drop k) (by rw [List.length_drop]; have := HF.out; have := HN.out; omega) (HS.out.drop k) (hC.1.drop k (by omega)))
          clear hC hD; go_simp; exact Below.refl _ _
        simp only [Act.put, List.setIfInBounds_toArray, List.set_cons_zero, List.set_cons_succ]
        refine' flow_N0 (fun u w' => OB w1 w' u (bothH (treeF f (ps.take k)) (treeF f (ps.drop k)))) (fun _ => lives_ob _ _ _) rfl (fun ν w2 hC hD => ?_) ?_
        · have hs := ret_ob hC.2 (rboth_any w2 _ _ _ _ (hD.1.2 (by kernel_rfl)) (hD.2 (by kernel_rfl)) (by rw [treeF_length, treeF_length]; omega))
          clear hC hD; go_simp; exact Below.refl _ _
        simp only [Act.put, List.setIfInBounds_toArray, List.set_cons_zero, List.set_cons_succ]
        refine flow_nil ?_
        intro ν w2 hC hG
        have hO := hG.2
        clear hC hG
        go_wp2
        go_ret
        exact ⟨_, rfl, hO⟩
end Go.Proofs.Ytllnocffmlagjaa
