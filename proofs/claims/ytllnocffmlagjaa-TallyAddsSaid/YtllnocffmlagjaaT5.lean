/- Contract of ref32.Way. Conditions: at most 20 items, each within 1000 bytes; the item is there. -/
import Derived.Test.YtllnocffmlagjaaT4
set_option linter.unusedVariables false
namespace Go.Proofs.Ytllnocffmlagjaa
open Go.RowKit
attribute [local go_sem] flowAt flowUpon

set_option maxRecDepth 100000 in
set_option maxHeartbeats 1000000 in
theorem rway_any : ∀ (f : Nat) (w : World) (v : Value) (ps : List (List UInt8)) (i : Nat), ps.length ≤ f → Small ps → Parts w v ps → i < ps.length → f ≤ 20 →
    Calls Try.prog 28 #[v, .int .i64 i] w fun e w' => ∃ r, e = .returned r ∧ OP w w' r (wayF f ps i) := by
  intro f
  induction f with
  | zero =>
    intro w v ps i hf hs hp hi
    omega
  | succ f ih =>
    intro w v ps i hf hs hp hi hf20
    obtain ⟨a, cap, rfl, hc, hm, hne⟩ := hp.shape
    unfold wayF
    obtain ⟨b, o, rfl⟩ := hne (by omega)
    obtain ⟨n, hn⟩ : ∃ n, ps.length = n := ⟨_, rfl⟩
    rw [hn] at hc hf hne hp hi ⊢
    have hi' : (i : Int) < n := by omega
    by_cases h2 : n < 2
    · rw [if_pos h2]
      have h2' : (n : Int) < 2 := by omega
      have HO := Lib.hid (OP.nil w)
      clear ih hf hs hp hne hn h2 hi
      go_enter Try.func28, Try.ntmps28
      go_wp2
      go_ret
      exact ⟨_, rfl, HO.out⟩
    · rw [if_neg h2]
      obtain ⟨k, hk⟩ : ∃ k, lf n = k := ⟨_, rfl⟩
      rw [hk]
      have h20 : n ≤ 20 := by have := hs.1; omega
      obtain ⟨k1, kn, k16, _, _, _⟩ := lf_table n (by omega) (by omega)
      rw [hk] at k1 kn k16
      have hl := rleft_any w n (by omega) h20
      rw [hk] at hl
      have HN := Lib.hid hn
      have HF := Lib.hid hf
      have HS := Lib.hid hs
      have HIH := Lib.hid (fun w v ps i h1 h2 h3 h4 => ih w v ps i h1 h2 h3 h4 (by omega))
      have HP := Lib.hid hp
      have n2 : (2 : Int) ≤ n := by omega
      have kc : (k : Int) ≤ cap := by omega
      have kn' : (k : Int) ≤ n := by omega
      have knc : ¬ cap = k := by omega
      clear ih hs hp hne hf hn hk h2
      by_cases hik : i < k
      · rw [if_pos hik]
        have hik' : (i : Int) < k := by omega
        go_enter Try.func28, Try.ntmps28
        go_wp2_with (go_at_call 71; refine hl.mono ?_; rintro e w1 ⟨rfl, rfl⟩; clear hl)
        refine J.wp_flowC 11 (by kernel_rfl) (by kernel_rfl) Tw6 (by kernel_rfl) ?_
        simp only [List.take_succ_cons, List.take_zero, List.drop_succ_cons, List.drop_zero]
        iterate 2
          refine' J.flow_D0 rfl rfl (fun ν w2 hC hD => ?_) ?_; rotate_left
          · clear hC hD; go_simp; exact ⟨Below.refl _ _, rfl⟩
          simp only [Act.put, List.setIfInBounds_toArray, List.set_cons_zero, List.set_cons_succ]
        refine' J.flow_D0 (e := .slice (some ⟨b, o, none⟩) k cap) rfl rfl (fun ν w2 hC hD => ?_) ?_
        · clear hC hD; go_simp; exact ⟨Below.refl _ _, rfl⟩
        simp only [Act.put, List.setIfInBounds_toArray, List.set_cons_zero, List.set_cons_succ]
        iterate 1
          refine' J.flow_D0 rfl rfl (fun ν w2 hC hD => ?_) ?_; rotate_left
          · clear hC hD; go_simp; exact ⟨Below.refl _ _, rfl⟩
          simp only [Act.put, List.setIfInBounds_toArray, List.set_cons_zero, List.set_cons_succ]
        refine' J.flow_N0 (fun u w' => OP w1 w' u (wayF f (ps.take k) i)) (fun _ => lives_op _ _ _) rfl rfl rfl (fun ν w2 hC hD => ?_) ?_
        · have hs := ret_op hC (HIH.out w2 _ (ps.take k) i (by rw [List.length_take]; have := HF.out; have := HN.out; omega) (HS.out.take k) ((HP.out.below hC).take k (by omega)) (by rw [List.length_take]; have := HN.out; omega))
          clear hC hD; go_simp; exact Below.refl _ _
        simp only [Act.put, List.setIfInBounds_toArray, List.set_cons_zero, List.set_cons_succ]
        iterate 2
          refine' J.flow_D0 rfl rfl (fun ν w2 hC hD => ?_) ?_; rotate_left
          · clear hC hD; go_simp; exact ⟨Below.refl _ _, rfl⟩
          simp only [Act.put, List.setIfInBounds_toArray, List.set_cons_zero, List.set_cons_succ]
        refine' J.flow_D0 (e := .slice (some ⟨b, o + k, none⟩) (n - k) (cap - k)) rfl rfl (fun ν w2 hC hD => ?_) ?_
        · clear hC hD; go_simp; exact ⟨Below.refl _ _, rfl⟩
        simp only [Act.put, List.setIfInBounds_toArray, List.set_cons_zero, List.set_cons_succ]
        refine' J.flow_N0 (fun u w' => OB w1 w' u (treeF f (ps.drop k))) (fun _ => lives_ob _ _ _) rfl rfl rfl (fun ν w2 hC hD => ?_) ?_
        · have hs := ret_ob hC (rtree_any f w2 _ (ps.drop k) (by rw [List.length_drop]; have := HF.out; have := HN.out; omega) (HS.out.drop k) ((HP.out.below hC).drop k (by omega)))
          clear hC hD; go_simp; exact Below.refl _ _
        simp only [Act.put, List.setIfInBounds_toArray, List.set_cons_zero, List.set_cons_succ]
        refine' J.flow_N0 (fun u w' => OP w1 w' u [treeF f (ps.drop k)]) (fun _ => lives_op _ _ _) rfl rfl rfl (fun ν w2 hC hD => ?_) ?_
        · have hq := hD.2 (by kernel_rfl)
          obtain ⟨A, cA, hA⟩ := hq.shape
          have ho := OP.one hq
          rw [hA] at ho
          clear hC hD hq; go_simp; exact (Below.refl _ _).alloc (Nat.le_refl _) _
        simp only [Act.put, List.setIfInBounds_toArray, List.set_cons_zero, List.set_cons_succ]
        refine' J.flow_S0 (fun u w' => OP w1 w' u (wayF f (ps.take k) i ++ [treeF f (ps.drop k)])) (fun _ => lives_op _ _ _) rfl rfl rfl (fun ν w2 hC hD => ?_) ?_
        · exact J.flow_appP (W0 := w1) (w := w2) (.tmp 19) (.tmp 24) rfl _ _ _ _ rfl rfl (hD.1.1.2 (by kernel_rfl)) (hD.2 (by kernel_rfl)) (by have := wayF_len f (ps.take k) i; have := HF.out; simp; omega)
        simp only [Act.put, List.setIfInBounds_toArray, List.set_cons_zero, List.set_cons_succ]
        refine J.flow_nil ?_
        intro ν w2 hC hG
        have hO := hG.2 rfl
        clear hC hG
        go_wp2
        go_ret
        exact ⟨_, rfl, hO⟩
      · rw [if_neg hik]
        have hik' : ¬ ((i : Int) < k) := by omega
        obtain ⟨d, hd⟩ : ∃ d, i - k = d := ⟨_, rfl⟩
        have hdi : (i : Int) - k = d := by omega
        rw [hd]
        have HDW := Lib.hid (IntWalk.i64_in (d : Int) (by omega))
        go_enter Try.func28, Try.ntmps28
        go_wp2_with (go_at_call 71; refine hl.mono ?_; rintro e w1 ⟨rfl, rfl⟩; clear hl)
        refine J.wp_flowC 13 (by kernel_rfl) (by kernel_rfl) Tw7 (by kernel_rfl) ?_
        simp only [List.take_succ_cons, List.take_zero, List.drop_succ_cons, List.drop_zero]
        iterate 2
          refine' J.flow_D0 rfl rfl (fun ν w2 hC hD => ?_) ?_; rotate_left
          · clear hC hD; go_simp; exact ⟨Below.refl _ _, rfl⟩
          simp only [Act.put, List.setIfInBounds_toArray, List.set_cons_zero, List.set_cons_succ]
        refine' J.flow_D0 (e := .slice (some ⟨b, o + k, none⟩) (n - k) (cap - k)) rfl rfl (fun ν w2 hC hD => ?_) ?_
        · clear hC hD; go_simp; exact ⟨Below.refl _ _, rfl⟩
        simp only [Act.put, List.setIfInBounds_toArray, List.set_cons_zero, List.set_cons_succ]
        iterate 2
          refine' J.flow_D0 rfl rfl (fun ν w2 hC hD => ?_) ?_; rotate_left
          · clear hC hD; go_simp; exact ⟨Below.refl _ _, rfl⟩
          simp only [Act.put, List.setIfInBounds_toArray, List.set_cons_zero, List.set_cons_succ]
        refine' J.flow_D0 (e := .int .i64 d) rfl rfl (fun ν w2 hC hD => ?_) ?_
        · clear hC hD; go_simp; exact ⟨Below.refl _ _, congrArg (Value.int IntKind.i64) HDW.out⟩
        simp only [Act.put, List.setIfInBounds_toArray, List.set_cons_zero, List.set_cons_succ]
        refine' J.flow_N0 (fun u w' => OP w1 w' u (wayF f (ps.drop k) d)) (fun _ => lives_op _ _ _) rfl rfl rfl (fun ν w2 hC hD => ?_) ?_
        · have hs := ret_op hC (HIH.out w2 _ (ps.drop k) d (by rw [List.length_drop]; have := HF.out; have := HN.out; omega) (HS.out.drop k) ((HP.out.below hC).drop k (by omega)) (by rw [List.length_drop]; have := HN.out; omega))
          clear hC hD; go_simp; exact Below.refl _ _
        simp only [Act.put, List.setIfInBounds_toArray, List.set_cons_zero, List.set_cons_succ]
        iterate 2
          refine' J.flow_D0 rfl rfl (fun ν w2 hC hD => ?_) ?_; rotate_left
          · clear hC hD; go_simp; exact ⟨Below.refl _ _, rfl⟩
          simp only [Act.put, List.setIfInBounds_toArray, List.set_cons_zero, List.set_cons_succ]
        refine' J.flow_D0 (e := .slice (some ⟨b, o, none⟩) k cap) rfl rfl (fun ν w2 hC hD => ?_) ?_
        · clear hC hD; go_simp; exact ⟨Below.refl _ _, rfl⟩
        simp only [Act.put, List.setIfInBounds_toArray, List.set_cons_zero, List.set_cons_succ]
        refine' J.flow_N0 (fun u w' => OB w1 w' u (treeF f (ps.take k))) (fun _ => lives_ob _ _ _) rfl rfl rfl (fun ν w2 hC hD => ?_) ?_
        · have hs := ret_ob hC (rtree_any f w2 _ (ps.take k) (by rw [List.length_take]; have := HF.out; have := HN.out; omega) (HS.out.take k) ((HP.out.below hC).take k (by omega)))
          clear hC hD; go_simp; exact Below.refl _ _
        simp only [Act.put, List.setIfInBounds_toArray, List.set_cons_zero, List.set_cons_succ]
        refine' J.flow_N0 (fun u w' => OP w1 w' u [treeF f (ps.take k)]) (fun _ => lives_op _ _ _) rfl rfl rfl (fun ν w2 hC hD => ?_) ?_
        · have hq := hD.2 (by kernel_rfl)
          obtain ⟨A, cA, hA⟩ := hq.shape
          have ho := OP.one hq
          rw [hA] at ho
          clear hC hD hq; go_simp; exact (Below.refl _ _).alloc (Nat.le_refl _) _
        simp only [Act.put, List.setIfInBounds_toArray, List.set_cons_zero, List.set_cons_succ]
        refine' J.flow_S0 (fun u w' => OP w1 w' u (wayF f (ps.drop k) d ++ [treeF f (ps.take k)])) (fun _ => lives_op _ _ _) rfl rfl rfl (fun ν w2 hC hD => ?_) ?_
        · exact J.flow_appP (W0 := w1) (w := w2) (.tmp 32) (.tmp 37) rfl _ _ _ _ rfl rfl (hD.1.1.2 (by kernel_rfl)) (hD.2 (by kernel_rfl)) (by have := wayF_len f (ps.drop k) d; have := HF.out; simp; omega)
        simp only [Act.put, List.setIfInBounds_toArray, List.set_cons_zero, List.set_cons_succ]
        refine J.flow_nil ?_
        intro ν w2 hC hG
        have hO := hG.2 rfl
        clear hC hG
        go_wp2
        go_ret
        exact ⟨_, rfl, hO⟩
end Go.Proofs.Ytllnocffmlagjaa
