/- law31.SealMarks returns true and turns nothing that lay. Conditions: its arguments read as bytes. -/
import Derived.Test.YtllnocffmlagjaaS4
import Derived.Test.YtllnocffmlagjaaL2
import Derived.Test.YtllnocffmlagjaaG2
set_option linter.unusedVariables false
namespace Go.Proofs.Ytllnocffmlagjaa
open Go.RowKit
attribute [local go_sem] flowAt flowUpon

theorem rmark_ret (w : World) (v b : Value) (key m : List UInt8) (hv : Sl w v (bv key)) (hb : Sl w b (bv m)) (hk : key.length ≤ 1000) (hl : m.length ≤ 140737488350000) :
    Calls Try.prog 43 #[v, b] w (RetIn w (fun u w' => Sl w' u (bv (mark key m)))) :=
  (rmark_any w v b key m hv hb hk hl).mono fun e w' ⟨r, he, ho⟩ => ⟨r, he, ho.2, ho.sl⟩
def T31 : J.Tab := ⟨fun k => if k = 3 then some 5 else if k = 5 then some 7 else if k = 7 then some 8 else if k = 8 then some 9 else none, fun k => k == 5 || k == 7, fun k => !(k == 3 || k == 5 || k == 7 || k == 8)⟩

set_option maxRecDepth 100000 in
set_option maxHeartbeats 1000000 in
theorem sealMarks_any (w : World) (v0 v1 v2 : Value) (key xa xb : List UInt8) (h0 : Sl w v0 (bv key)) (h1 : Sl w v1 (bv xa)) (h2 : Sl w v2 (bv xb)) :
    Calls Try.prog 10 #[v0, v1, v2] w fun e w' => e = .returned (.bool true) ∧ Below w.heap.size w w' := by
  obtain ⟨a0, c0, rfl, m0, n0, _, _⟩ := h0.openB
  obtain ⟨a1, c1, rfl, m1, n1, _, _⟩ := h1.openB
  obtain ⟨a2, c2, rfl, m2, n2, _, _⟩ := h2.openB
  have k0 : key.length ≤ 9223372036854775807 := Nat.le_trans m0 n0
  have k1 : xa.length ≤ 9223372036854775807 := Nat.le_trans m1 n1
  have k2 : xb.length ≤ 9223372036854775807 := Nat.le_trans m2 n2
  obtain ⟨l0, e0⟩ : ∃ l, key.length = l := ⟨_, rfl⟩
  obtain ⟨l1, e1⟩ : ∃ l, xa.length = l := ⟨_, rfl⟩
  obtain ⟨l2, e2⟩ : ∃ l, xb.length = l := ⟨_, rfl⟩
  rw [e0] at h0 k0 ⊢
  rw [e1] at h1 k1 ⊢
  rw [e2] at h2 k2 ⊢
  have H0 := Lib.hid h0
  have H1 := Lib.hid h1
  have H2 := Lib.hid h2
  have E0 := Lib.hid e0
  have E1 := Lib.hid e1
  have E2 := Lib.hid e2
  have HB := Lib.hid (Below.refl w.heap.size w)
  clear h0 h1 h2 e0 e1 e2 m0 m1 m2 n0 n1 n2
  by_cases b0 : 150 < l0
  · have b0' : (150 : Int) < l0 := by omega
    go_enter Try.func10, Try.ntmps10
    go_wp2_with (go_at_call 41; refine (lives31 _).mono ?_; rintro e w1 ⟨rfl, hB⟩; replace HB := Lib.hid (below_then HB.out HB.out.size hB); clear hB)
    go_ret
    exact ⟨rfl, HB.out⟩
  · have b0' : (l0 : Int) ≤ 150 := by omega
    by_cases b1 : 150 < l1
    · have b1' : (150 : Int) < l1 := by omega
      go_enter Try.func10, Try.ntmps10
      go_wp2_with (go_at_call 41; refine (lives31 _).mono ?_; rintro e w1 ⟨rfl, hB⟩; replace HB := Lib.hid (below_then HB.out HB.out.size hB); clear hB)
      go_ret
      exact ⟨rfl, HB.out⟩
    · have b1' : (l1 : Int) ≤ 150 := by omega
      by_cases b2 : 150 < l2
      · have b2' : (150 : Int) < l2 := by omega
        go_enter Try.func10, Try.ntmps10
        go_wp2_with (go_at_call 41; refine (lives31 _).mono ?_; rintro e w1 ⟨rfl, hB⟩; replace HB := Lib.hid (below_then HB.out HB.out.size hB); clear hB)
        go_ret
        exact ⟨rfl, HB.out⟩
      · have b2' : (l2 : Int) ≤ 150 := by omega
        go_enter Try.func10, Try.ntmps10
        go_wp2_with (first
          | (go_at_call 42; refine (mark_any _ _ _ key [xa, xb] hS4 hP (by rw [E0.out]; omega) (by simp [E1.out, E2.out]; omega) (by simp)).mono ?_; rintro e w5 ⟨r5, rfl, hO5⟩; obtain ⟨A5, c5, rfl⟩ := hO5.shape)
          | (go_at_call 41; refine (lives31 _).mono ?_; rintro e w1 ⟨rfl, hB⟩; replace HB := Lib.hid (below_then HB.out HB.out.size hB); have HO := Lib.hid (OB.new0 w1); have HS := Lib.hid ((H0.out.below HB.out).below ((Below.refl _ w1).alloc (Nat.le_refl _) (.cells #[] 5))); clear hB)
          | (at_builtin; refine wpL_cat w1 _ rfl _ _ rfl _ _ rfl HO.out _ _ rfl HS.out l0 (by simp [E0.out]) (by omega) ?_; intro A3 c3 w3 hO3; rw [List.nil_append] at hO3; have hB3 := below_then HB.out HB.out.size hO3.2; have hP := Parts.two w3 _ _ xa xb (H1.out.below hB3) (H2.out.below hB3); have hS4 := hO3.sl.below ((Below.refl _ w3).alloc (Nat.le_refl _) (.cells #[.slice a1 l1 c1, .slice a2 l2 c2] 22))))
        have hB5 := below_then hB3 hB3.size (below_then ((Below.refl _ w3).alloc (Nat.le_refl _) (.cells #[.slice a1 l1 c1, .slice a2 l2 c2] 22)) (by simp) hO5.2)
        have F0 := Lib.hid (H0.out.below hB5)
        have F1 := Lib.hid (H1.out.below hB5)
        have F2 := Lib.hid (H2.out.below hB5)
        have F3 := Lib.hid ((hS4).below hO5.2)
        have F5 := Lib.hid hO5.sl
        have HB5 := Lib.hid hB5
        have hFl : [xa, xb].flatten = xa ++ xb := by simp
        rw [hFl] at F5
        rw [mark_length] at F5 ⊢
        clear hB5 hO5 hS4 hP hB3 hO3 hFl
        refine J.wp_flowC 19 (by kernel_rfl) (by kernel_rfl) T31 (by kernel_rfl) ?_
        simp only [List.take_succ_cons, List.take_zero, List.drop_succ_cons, List.drop_zero]
        refine' J.flow_D0 rfl rfl (fun ν w2 hC hD => ?_) ?_; rotate_left
        · clear hC hD; go_simp; exact ⟨Below.refl _ _, rfl⟩
        simp only [Act.put, List.setIfInBounds_toArray, List.set_cons_zero, List.set_cons_succ]
        refine' J.flow_D0 (e := .string (strOfNums ((mark key (xa ++ xb)).map V8))) rfl rfl (fun ν w2 hC hD => ?_) ?_
        · have hs := conv_str w2 _ _ (F5.out.below hC)
          clear hC hD
          go_simp; exact ⟨Below.refl _ _, rfl⟩
        simp only [Act.put, List.setIfInBounds_toArray, List.set_cons_zero, List.set_cons_succ]
        refine' J.flow_D0 rfl rfl (fun ν w2 hC hD => ?_) ?_; rotate_left
        · clear hC hD; go_simp; exact ⟨Below.refl _ _, rfl⟩
        simp only [Act.put, List.setIfInBounds_toArray, List.set_cons_zero, List.set_cons_succ]
        refine' J.flow_N0 (fun u w' => OB w5 w' u []) (fun _ => lives_ob _ _ _) rfl rfl rfl (fun ν w2 hC hD => ?_) ?_
        · have ho : OB w5 (w2.alloc (.cells #[] 5)) (.slice (some ⟨w2.heap.size, 0, none⟩) 0 0) [] := ⟨own_new w2 w5.heap.size 5 [] (by simp [maxLen]) hC.size, hC.alloc hC.size _⟩
          clear hC hD; go_simp; exact (Below.refl _ _).alloc (Nat.le_refl _) _
        simp only [Act.put, List.setIfInBounds_toArray, List.set_cons_zero, List.set_cons_succ]
        refine' J.flow_D0 rfl rfl (fun ν w2 hC hD => ?_) ?_; rotate_left
        · clear hC hD; go_simp; exact ⟨Below.refl _ _, rfl⟩
        simp only [Act.put, List.setIfInBounds_toArray, List.set_cons_zero, List.set_cons_succ]
        refine' J.flow_S0 (fun u w' => OB w5 w' u xa) (fun _ => lives_ob _ _ _) rfl rfl rfl (fun ν w2 hC hD => ?_) ?_
        · exact J.flow_app (W0 := w5) (w := w2) (.tmp 38) (.tmp 39) rfl _ _ [] xa rfl rfl (hD.2 (by kernel_rfl)) (F1.out.below hC) (by simp [E1.out]; omega)
        simp only [Act.put, List.setIfInBounds_toArray, List.set_cons_zero, List.set_cons_succ]
        refine' J.flow_D0 rfl rfl (fun ν w2 hC hD => ?_) ?_; rotate_left
        · clear hC hD; go_simp; exact ⟨Below.refl _ _, rfl⟩
        simp only [Act.put, List.setIfInBounds_toArray, List.set_cons_zero, List.set_cons_succ]
        refine' J.flow_S0 (fun u w' => OB w5 w' u (xa ++ xb)) (fun _ => lives_ob _ _ _) rfl rfl rfl (fun ν w2 hC hD => ?_) ?_
        · exact J.flow_app (W0 := w5) (w := w2) (.tmp 40) (.tmp 41) rfl _ _ xa xb rfl rfl (hD.2 (by kernel_rfl)) (F2.out.below hC) (by rw [E1.out, E2.out]; omega)
        simp only [Act.put, List.setIfInBounds_toArray, List.set_cons_zero, List.set_cons_succ]
        refine' J.flow_N0 (fun u w' => Sl w' u (bv (mark key (xa ++ xb)))) (fun _ => lives_sl _ _) rfl rfl rfl (fun ν w2 hC hD => ?_) ?_
        · have hs := rmark_ret w2 _ _ key (xa ++ xb) (F0.out.below hC) (hD.2 (by kernel_rfl)).sl (by rw [E0.out]; omega) (by rw [List.length_append, E1.out, E2.out]; omega)
          clear hC hD; go_simp; exact Below.refl _ _
        simp only [Act.put, List.setIfInBounds_toArray, List.set_cons_zero, List.set_cons_succ]
        refine' J.flow_D0 (e := .string (strOfNums ((mark key (xa ++ xb)).map V8))) rfl rfl (fun ν w2 hC hD => ?_) ?_
        · have hs := conv_str w2 _ _ (hD.2 (by kernel_rfl))
          clear hC hD
          go_simp; exact ⟨Below.refl _ _, rfl⟩
        simp only [Act.put, List.setIfInBounds_toArray, List.set_cons_zero, List.set_cons_succ]
        refine' J.flow_D0 rfl rfl (fun ν w2 hC hD => ?_) ?_; rotate_left
        · clear hC hD; go_simp; exact ⟨Below.refl _ _, rfl⟩
        simp only [Act.put, List.setIfInBounds_toArray, List.set_cons_zero, List.set_cons_succ]
        refine' J.flow_D0 rfl rfl (fun ν w2 hC hD => ?_) ?_; rotate_left
        · clear hC hD; go_simp; exact ⟨Below.refl _ _, rfl⟩
        simp only [Act.put, List.setIfInBounds_toArray, List.set_cons_zero, List.set_cons_succ]
        refine' J.flow_D rfl (fun ν => rfl) (fun ν w2 hC hD => ?_) ?_; rotate_left
        · clear hC hD; go_simp; exact ⟨Below.refl _ _, rfl⟩
        simp only [Act.put, List.setIfInBounds_toArray, List.set_cons_zero, List.set_cons_succ]
        refine' J.flow_D (e := .string (strOfNums ((key).map V8))) rfl (fun ν => rfl) (fun ν w2 hC hD => ?_) ?_
        · have hs := conv_str w2 _ _ (F3.out.below hC)
          clear hC hD
          go_simp; exact ⟨Below.refl _ _, rfl⟩
        simp only [Act.put, List.setIfInBounds_toArray, List.set_cons_zero, List.set_cons_succ]
        refine' J.flow_D rfl (fun ν => rfl) (fun ν w2 hC hD => ?_) ?_; rotate_left
        · clear hC hD; go_simp; exact ⟨Below.refl _ _, rfl⟩
        simp only [Act.put, List.setIfInBounds_toArray, List.set_cons_zero, List.set_cons_succ]
        refine' J.flow_D (e := .string (strOfNums ((key).map V8))) rfl (fun ν => rfl) (fun ν w2 hC hD => ?_) ?_
        · have hs := conv_str w2 _ _ (F0.out.below hC)
          clear hC hD
          go_simp; exact ⟨Below.refl _ _, rfl⟩
        simp only [Act.put, List.setIfInBounds_toArray, List.set_cons_zero, List.set_cons_succ]
        refine' J.flow_D rfl (fun ν => rfl) (fun ν w2 hC hD => ?_) ?_; rotate_left
        · clear hC hD; go_simp; exact ⟨Below.refl _ _, rfl⟩
        simp only [Act.put, List.setIfInBounds_toArray, List.set_cons_zero, List.set_cons_succ]
        refine' J.flow_D0 rfl rfl (fun ν w2 hC hD => ?_) ?_; rotate_left
        · clear hC hD; go_simp; exact ⟨Below.refl _ _, rfl⟩
        simp only [Act.put, List.setIfInBounds_toArray, List.set_cons_zero, List.set_cons_succ]
        refine' J.flow_D0 rfl rfl (fun ν w2 hC hD => ?_) ?_; rotate_left
        · clear hC hD; go_simp; exact ⟨Below.refl _ _, rfl⟩
        simp only [Act.put, List.setIfInBounds_toArray, List.set_cons_zero, List.set_cons_succ]
        refine J.flow_nil ?_
        intro ν w2 hC hG
        have hB2 := Lib.hid (below_then HB5.out HB5.out.size hC)
        clear hC hG
        go_wp2
        go_ret
        exact ⟨rfl, hB2.out⟩
end Go.Proofs.Ytllnocffmlagjaa
