/- law07.HashSums returns true and turns nothing that lay. Conditions: its argument reads as bytes. -/
import Derived.Test.YtllnocffmlagjaaL1
import Derived.Test.YtllnocffmlagjaaR9
set_option linter.unusedVariables false
namespace Go.Proofs.Ytllnocffmlagjaa
open Go.RowKit
attribute [local go_sem] flowAt flowUpon

theorem rsum_ret (w : World) (v : Value) (bs : List UInt8) (hv : Sl w v (bv bs)) (hl : bs.length ≤ 140737488354000) :
    Calls Try.prog 14 #[v] w (RetIn w (fun u w' => Sl w' u (bv (sha bs)))) :=
  (rsum_any w v bs hv hl).mono fun e w' ⟨r, he, ho⟩ => ⟨r, he, ho.2, ho.sl⟩

set_option maxRecDepth 100000 in
set_option maxHeartbeats 1000000 in
theorem hashSums_any (w : World) (v : Value) (bs : List UInt8) (hv : Sl w v (bv bs)) :
    Calls Try.prog 3 #[v] w fun e w' => e = .returned (.bool true) ∧ Below w.heap.size w w' := by
  obtain ⟨a, cap, rfl, h1, h2, _, _⟩ := hv.openB
  have hnm : bs.length ≤ 9223372036854775807 := Nat.le_trans h1 h2
  have HV := Lib.hid hv
  clear hv h1 h2
  have HB := Lib.hid (Below.refl w.heap.size w)
  by_cases h300 : 300 < bs.length
  · obtain ⟨n, hn⟩ : ∃ n, bs.length = n := ⟨_, rfl⟩
    rw [hn] at hnm h300 HV ⊢
    have h300' : (300 : Int) < n := by omega
    clear HV hn
    go_enter Try.func3, Try.ntmps3
    go_wp2_with (go_at_call 12; refine (lives07 _).mono ?_; rintro e w1 ⟨rfl, hB⟩; replace HB := Lib.hid (below_then HB.out HB.out.size hB); clear hB)
    go_ret
    exact ⟨rfl, HB.out⟩
  · obtain ⟨n, hn⟩ : ∃ n, bs.length = n := ⟨_, rfl⟩
    rw [hn] at hnm h300 HV ⊢
    have h300' : (n : Int) ≤ 300 := by omega
    go_enter Try.func3, Try.ntmps3
    go_wp2_with (first
      | (go_at_call 12; refine (lives07 _).mono ?_; rintro e w1 ⟨rfl, hB⟩; replace HB := Lib.hid (below_then HB.out HB.out.size hB); have HO := Lib.hid (OB.new0 w1); have HS := Lib.hid ((HV.out.below HB.out).below ((Below.refl _ w1).alloc (Nat.le_refl _) (.cells #[] 5))); clear hB)
      | (at_builtin; refine wpL_cat w1 _ rfl _ _ rfl _ _ rfl HO.out _ _ rfl HS.out n (by simp [hn]) (by omega) ?_; intro A2 c2 w3 hO3; rw [List.nil_append] at hO3))
    have hsl := hO3.sl
    have hB := below_then HB.out HB.out.size hO3.2
    have hV := (HV.out.below HB.out).below hO3.2
    clear hO3
    refine wp_flowC 16 (by kernel_rfl) (by kernel_rfl) (fun w' => (Sl w' (.slice a n cap) (bv bs) ∧ Sl w' (.slice A2 n c2) (bv bs)) ∧ Below w.heap.size w w')
      (lives_and (lives_and (lives_sl _ _) (lives_sl _ _)) (fun x y h hb => below_then h h.size hb)) ⟨⟨hV, hsl⟩, hB⟩ ?_
    simp only [List.take_succ_cons, List.take_zero, List.drop_succ_cons, List.drop_zero]
    refine' flow_D0 rfl (fun ν w2 hC hD => ?_) ?_; rotate_left
    · clear hC hD; go_simp; exact ⟨Below.refl _ _, rfl⟩
    simp only [Act.put, List.setIfInBounds_toArray, List.set_cons_zero, List.set_cons_succ]
    refine' flow_N0 (fun u w' => Parts w' u [bs]) (fun _ => lives_parts _ _) rfl (fun ν w2 hC hD => ?_) ?_
    · have hp := Parts.one w2 _ bs hC.1.2
      clear hC hD; go_simp; exact (Below.refl _ _).alloc (Nat.le_refl _) _
    simp only [Act.put, List.setIfInBounds_toArray, List.set_cons_zero, List.set_cons_succ]
    refine' flow_N0 (fun u w' => Sl w' u (bv (sha bs))) (fun _ => lives_sl _ _) rfl (fun ν w2 hC hD => ?_) ?_
    · have hs := sum_ret w2 _ _ bs (hD.2 (by kernel_rfl)) (by simp; omega) (by simp) (by simp)
      clear hC hD; go_simp; exact Below.refl _ _
    simp only [Act.put, List.setIfInBounds_toArray, List.set_cons_zero, List.set_cons_succ]
    refine' flow_D0 (e := .string (strOfNums ((sha bs).map V8))) rfl (fun ν w2 hC hD => ?_) ?_
    · have hs := conv_str w2 _ _ (hD.2 (by kernel_rfl))
      clear hC hD
      go_simp; exact ⟨Below.refl _ _, rfl⟩
    simp only [Act.put, List.setIfInBounds_toArray, List.set_cons_zero, List.set_cons_succ]
    refine' flow_D0 rfl (fun ν w2 hC hD => ?_) ?_; rotate_left
    · clear hC hD; go_simp; exact ⟨Below.refl _ _, rfl⟩
    simp only [Act.put, List.setIfInBounds_toArray, List.set_cons_zero, List.set_cons_succ]
    refine' flow_N0 (fun u w' => Sl w' u (bv (sha bs))) (fun _ => lives_sl _ _) rfl (fun ν w2 hC hD => ?_) ?_
    · have hs := rsum_ret w2 _ bs hC.1.1 (by omega)
      clear hC hD; go_simp; exact Below.refl _ _
    simp only [Act.put, List.setIfInBounds_toArray, List.set_cons_zero, List.set_cons_succ]
    refine' flow_D0 (e := .string (strOfNums ((sha bs).map V8))) rfl (fun ν w2 hC hD => ?_) ?_
    · have hs := conv_str w2 _ _ (hD.2 (by kernel_rfl))
      clear hC hD
      go_simp; exact ⟨Below.refl _ _, rfl⟩
    simp only [Act.put, List.setIfInBounds_toArray, List.set_cons_zero, List.set_cons_succ]
    refine' flow_D0 rfl (fun ν w2 hC hD => ?_) ?_; rotate_left
    · clear hC hD; go_simp; exact ⟨Below.refl _ _, rfl⟩
    simp only [Act.put, List.setIfInBounds_toArray, List.set_cons_zero, List.set_cons_succ]
    refine' flow_D0 rfl (fun ν w2 hC hD => ?_) ?_; rotate_left
    · clear hC hD; go_simp; exact ⟨Below.refl _ _, rfl⟩
    simp only [Act.put, List.setIfInBounds_toArray, List.set_cons_zero, List.set_cons_succ]
    refine' flow_D (fun ν => rfl) (fun ν w2 hC hD => ?_) ?_; rotate_left
    · clear hC hD; go_simp; exact ⟨Below.refl _ _, rfl⟩
    simp only [Act.put, List.setIfInBounds_toArray, List.set_cons_zero, List.set_cons_succ]
    refine' flow_D (e := .string (strOfNums ((bs).map V8))) (fun ν => rfl) (fun ν w2 hC hD => ?_) ?_
    · have hs := conv_str w2 _ _ hC.1.2
      clear hC hD
      go_simp; exact ⟨Below.refl _ _, rfl⟩
    simp only [Act.put, List.setIfInBounds_toArray, List.set_cons_zero, List.set_cons_succ]
    refine' flow_D (fun ν => rfl) (fun ν w2 hC hD => ?_) ?_; rotate_left
    · clear hC hD; go_simp; exact ⟨Below.refl _ _, rfl⟩
    simp only [Act.put, List.setIfInBounds_toArray, List.set_cons_zero, List.set_cons_succ]
    refine' flow_D (e := .string (strOfNums ((bs).map V8))) (fun ν => rfl) (fun ν w2 hC hD => ?_) ?_
    · have hs := conv_str w2 _ _ hC.1.1
      clear hC hD
      go_simp; exact ⟨Below.refl _ _, rfl⟩
    simp only [Act.put, List.setIfInBounds_toArray, List.set_cons_zero, List.set_cons_succ]
    refine' flow_D (fun ν => rfl) (fun ν w2 hC hD => ?_) ?_; rotate_left
    · clear hC hD; go_simp; exact ⟨Below.refl _ _, rfl⟩
    simp only [Act.put, List.setIfInBounds_toArray, List.set_cons_zero, List.set_cons_succ]
    refine' flow_D0 rfl (fun ν w2 hC hD => ?_) ?_; rotate_left
    · clear hC hD; go_simp; exact ⟨Below.refl _ _, rfl⟩
    simp only [Act.put, List.setIfInBounds_toArray, List.set_cons_zero, List.set_cons_succ]
    refine' flow_D0 rfl (fun ν w2 hC hD => ?_) ?_; rotate_left
    · clear hC hD; go_simp; exact ⟨Below.refl _ _, rfl⟩
    simp only [Act.put, List.setIfInBounds_toArray, List.set_cons_zero, List.set_cons_succ]
    refine flow_nil ?_
    intro ν w2 hC hG
    have hB2 := Lib.hid hC.2
    clear hC hG
    go_wp2
    go_ret
    exact ⟨rfl, hB2.out⟩
end Go.Proofs.Ytllnocffmlagjaa
