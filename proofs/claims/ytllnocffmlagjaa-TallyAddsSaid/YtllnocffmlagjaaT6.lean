/- Contracts of law32.lives, few, same and of tally.Way. Conditions: each theorem names its own. -/
import Derived.Test.YtllnocffmlagjaaT5
import Derived.Test.YtllnocffmlagjaaS4
set_option linter.unusedVariables false
namespace Go.Proofs.Ytllnocffmlagjaa
open Go.RowKit
attribute [local go_sem] flowAt flowUpon

theorem leaf_empty : (leafH []).take 4 = [110, 52, 11, 156] := by decide +kernel

set_option maxRecDepth 100000 in
set_option maxHeartbeats 1000000 in
theorem lives32 (w : World) : Calls Try.prog 22 #[] w fun e w' => e = .returned (.bool true) ∧ Below w.heap.size w w' := by
  have hO := OB.new0 w
  have hp := Parts.one _ _ _ hO.sl
  have hb := below_then hO.2 hO.2.size ((Below.refl _ (w.alloc (.cells #[] 5))).alloc (Nat.le_refl _) (.cells #[.slice (some ⟨w.heap.size, 0, none⟩) 0 0] 22))
  have hm := tree_any 1 _ _ [[]] (by simp) ⟨by simp, fun i hi => by simp at hi; subst hi; simp⟩ hp
  rw [World.size_alloc] at hm
  have e1 : treeF 1 [[]] = leafH [] := rfl
  have hcall := hm.mono (R' := fun e w' => ∃ g o c, e = .returned (.slice (some ⟨g, o, none⟩) 32 c) ∧ w'.cell? ⟨g, o, none⟩ = some (.int .u8 110) ∧ w'.cell? ⟨g, o + 1, none⟩ = some (.int .u8 52) ∧ w'.cell? ⟨g, o + 2, none⟩ = some (.int .u8 11) ∧ w'.cell? ⟨g, o + 3, none⟩ = some (.int .u8 156) ∧ Hid (Below w.heap.size w w')) (fun e w' ⟨r, he, ho⟩ => by
    rw [e1] at ho
    obtain ⟨g, o, c, rfl, c0, c1, c2, c3⟩ := ho.four (sha_length _) 110 52 11 156 leaf_empty
    exact ⟨g, o, c, he, c0, c1, c2, c3, below_then hb hb.size ho.2⟩)
  clear hm hp hb hO e1
  go_enter Try.func22, Try.ntmps22
  go_wp2_with (go_at_call 24; refine hcall.mono ?_; rintro e w1 ⟨g, o, c, rfl, c0, c1, c2, c3, hB⟩; clear hcall)
  go_ret
  exact ⟨rfl, hB.out⟩

def Few32 (ps : List (List UInt8)) : Prop := ps.length ≤ 20 ∧ ∀ i, i < ps.length → (ps.getD i []).length ≤ 100
/-- It answers; if by yes, they are few. -/
def FewRet (ps : List (List UInt8)) (e : Ending) : Prop := ∃ b, e = .returned (.bool b) ∧ (b = true → Few32 ps) ∧ (b = false → ¬ Few32 ps)
set_option maxRecDepth 100000 in
set_option maxHeartbeats 1000000 in
theorem few32_any (w : World) (v : Value) (ps : List (List UInt8)) (hp : Parts w v ps) :
    Calls Try.prog 23 #[v] w fun e w' => FewRet ps e ∧ w' = w := by
  obtain ⟨a, cap, rfl, hc, hm, _⟩ := hp.shape
  have hnm : ps.length ≤ 9223372036854775807 := Nat.le_trans hc hm
  obtain ⟨_, _, he, hcell⟩ := hp.opened
  cases he
  have HC := Lib.hid hcell
  clear hcell hp
  obtain ⟨n, hn⟩ : ∃ n, ps.length = n := ⟨_, rfl⟩
  have HN := Lib.hid hn
  rw [hn] at HC hc hnm ⊢
  clear hn
  by_cases h20 : 20 < n
  · have h20' : (20 : Int) < n := by omega
    go_enter Try.func23, Try.ntmps23
    go_wp2
    go_ret
    exact ⟨⟨false, rfl, nofun, fun _ hf => by have := hf.1; have := HN.out; omega⟩, rfl⟩
  · have h20' : (n : Int) ≤ 20 := by omega
    go_enter Try.func23, Try.ntmps23
    go_wp2
    go_loop [4, 10, 11, 12, 13, 14, 15, 16] (fun _ i _ _ _ _ _ _ => ∃ k : Nat, k ≤ n ∧ i = .int .i64 k ∧ Hid (∀ j, j < k → (ps.getD j []).length ≤ 100)) (fun _ i _ _ _ _ _ _ => (n - intOf i).toNat)
    case atStart => exact ⟨0, by omega, rfl, fun j hj => absurd hj (by omega)⟩
    case round =>
      obtain ⟨k, hk, rfl, hall⟩ := hrel
      by_cases hlt : k < n
      · obtain ⟨b, o, u, rfl, hcu, hsl⟩ := HC.out k hlt
        obtain ⟨a1, c1, rfl, q1, q2, _, _⟩ := hsl.openB
        have hlt' : (k : Int) < n := by omega
        have hm1 : (ps.getD k []).length ≤ 9223372036854775807 := Nat.le_trans q1 q2
        by_cases h100 : 100 < (ps.getD k []).length
        · have h100' : (100 : Int) < (ps.getD k []).length := by omega
          have hno : Hid (¬ Few32 ps) := fun hf => by have := hf.2 k (by rw [HN.out]; exact hlt); omega
          generalize (ps.getD k []).length = m at *
          clear hsl q1 q2 h100
          go_wp2
          go_ret
          exact ⟨⟨false, rfl, nofun, fun _ => hno.out⟩, rfl⟩
        · have h100' : ((ps.getD k []).length : Int) ≤ 100 := by omega
          have hall2 : Hid (∀ j, j < k + 1 → (ps.getD j []).length ≤ 100) := by
            intro j hj
            by_cases e : j = k
            · subst e; omega
            · exact hall.out j (by omega)
          generalize (ps.getD k []).length = m at *
          have Hk : Hid (k + 1 ≤ n) := hlt
          clear hsl q1 q2 h100 hlt hk
          go_wp2
          go_round
          case rel => exact ⟨k + 1, Hk.out, by go_num, hall2⟩
          case measure => simp [intOf]; omega
      · obtain rfl : k = n := by omega
        have hf : Hid (Few32 ps) := ⟨by rw [HN.out]; omega, fun i hi => hall.out i (by rw [← HN.out]; exact hi)⟩
        clear hlt hk
        go_wp2
        go_ret
        exact ⟨⟨true, rfl, fun _ => hf.out, nofun⟩, rfl⟩

theorem few32_yes (w : World) (v : Value) (ps : List (List UInt8)) (hp : Parts w v ps) (hf : Few32 ps) : Calls Try.prog 23 #[v] w fun e w' => e = .returned (.bool true) ∧ w' = w :=
  (few32_any w v ps hp).mono fun e w' ⟨⟨b, he, h1, h2⟩, hw⟩ => by
    cases b
    · exact absurd hf (h2 rfl)
    · exact ⟨he, hw⟩
theorem few32_no (w : World) (v : Value) (ps : List (List UInt8)) (hp : Parts w v ps) (hf : ¬ Few32 ps) : Calls Try.prog 23 #[v] w fun e w' => e = .returned (.bool false) ∧ w' = w :=
  (few32_any w v ps hp).mono fun e w' ⟨⟨b, he, h1, h2⟩, hw⟩ => by
    cases b
    · exact ⟨he, hw⟩
    · exact absurd (h1 rfl) hf
set_option maxRecDepth 100000 in
set_option maxHeartbeats 1000000 in
theorem same32_any (w : World) (u v : Value) (ps : List (List UInt8)) (hp : Parts w u ps) (hq : Parts w v ps) (h20 : ps.length ≤ 1000) :
    Calls Try.prog 27 #[u, v] w fun e w' => e = .returned (.bool true) ∧ Below w.heap.size w w' := by
  obtain ⟨a, cap, rfl, _⟩ := hp.opened
  obtain ⟨a', cap', rfl, _⟩ := hq.opened
  obtain ⟨_, _, he, hcell⟩ := hp.opened
  cases he
  obtain ⟨_, _, he, hcell'⟩ := hq.opened
  cases he
  have HC := Lib.hid hcell
  have HD := Lib.hid hcell'
  clear hcell hcell' hp hq
  obtain ⟨n, hn⟩ : ∃ n, ps.length = n := ⟨_, rfl⟩
  rw [hn] at HC HD h20 ⊢
  clear hn
  go_enter Try.func27, Try.ntmps27
  go_wp2
  go_loopw [5, 13] (fun _ i wr => ∃ k : Nat, k ≤ n ∧ i = .int .i64 k ∧ Below w.heap.size w wr) (fun _ i _ => (n - intOf i).toNat)
  case atStart => exact ⟨0, by omega, rfl, Below.refl _ _⟩
  case round =>
    obtain ⟨k, hk, rfl, hB⟩ := hrel
    by_cases hlt : k < n
    · obtain ⟨b, o, u, rfl, hcu, hsl⟩ := HC.out k hlt
      obtain ⟨b', o', u', rfl, hcu', hsl'⟩ := HD.out k hlt
      have hlt' : (k : Int) < n := by omega
      have Hk : Hid (k + 1 ≤ n) := hlt
      replace hcu := (hB.cell (World.block_lt_of_cell? _ _ hcu)).trans hcu
      replace hcu' := (hB.cell (World.block_lt_of_cell? _ _ hcu')).trans hcu'
      replace hsl := hsl.below hB
      replace hsl' := hsl'.below hB
      generalize ps.getD k [] = bs at *
      clear hk hlt
      go_wp2
      refine wp_flowC 11 (by kernel_rfl) (by kernel_rfl) (fun w' => ((w'.cell? ⟨b, o + k, none⟩ = some u ∧ w'.cell? ⟨b', o' + k, none⟩ = some u') ∧ (Sl w' u (bv bs) ∧ Sl w' u' (bv bs))) ∧ Below w.heap.size w w')
        (lives_and (lives_and (lives_and (lives_cell _ _) (lives_cell _ _)) (lives_and (lives_sl _ _) (lives_sl _ _))) (lives_below _)) ⟨⟨⟨hcu, hcu'⟩, hsl, hsl'⟩, hB⟩ ?_
      simp only [List.take_succ_cons, List.take_zero, List.drop_succ_cons, List.drop_zero]
      iterate 3
        refine' flow_D0 rfl (fun ν w2 hC hD => ?_) ?_; rotate_left
        · clear hC hD; go_simp; exact ⟨Below.refl _ _, rfl⟩
        simp only [Act.put, List.setIfInBounds_toArray, List.set_cons_zero, List.set_cons_succ]
      refine' flow_D0 (e := u) rfl (fun ν w2 hC hD => ?_) ?_
      · have c1 := hC.1.1.1
        clear hC hD; go_simp; exact ⟨Below.refl _ _, rfl⟩
      simp only [Act.put, List.setIfInBounds_toArray, List.set_cons_zero, List.set_cons_succ]
      refine' flow_D0 (e := .string (strOfNums (bs.map V8))) rfl (fun ν w2 hC hD => ?_) ?_
      · have hs := conv_str w2 _ _ hC.1.2.1
        clear hC hD
        go_simp; exact ⟨Below.refl _ _, rfl⟩
      simp only [Act.put, List.setIfInBounds_toArray, List.set_cons_zero, List.set_cons_succ]
      iterate 3
        refine' flow_D0 rfl (fun ν w2 hC hD => ?_) ?_; rotate_left
        · clear hC hD; go_simp; exact ⟨Below.refl _ _, rfl⟩
        simp only [Act.put, List.setIfInBounds_toArray, List.set_cons_zero, List.set_cons_succ]
      refine' flow_D0 (e := u') rfl (fun ν w2 hC hD => ?_) ?_
      · have c1 := hC.1.1.2
        clear hC hD; go_simp; exact ⟨Below.refl _ _, rfl⟩
      simp only [Act.put, List.setIfInBounds_toArray, List.set_cons_zero, List.set_cons_succ]
      refine' flow_D0 (e := .string (strOfNums (bs.map V8))) rfl (fun ν w2 hC hD => ?_) ?_
      · have hs := conv_str w2 _ _ hC.1.2.2
        clear hC hD
        go_simp; exact ⟨Below.refl _ _, rfl⟩
      simp only [Act.put, List.setIfInBounds_toArray, List.set_cons_zero, List.set_cons_succ]
      refine' flow_D0 rfl (fun ν w2 hC hD => ?_) ?_; rotate_left
      · clear hC hD; go_simp; exact ⟨Below.refl _ _, rfl⟩
      simp only [Act.put, List.setIfInBounds_toArray, List.set_cons_zero, List.set_cons_succ]
      refine flow_nil ?_
      intro ν w2 hC hG
      have hB2 := Lib.hid hC.2
      clear hC hG
      go_wp2
      go_roundw
      case rel => exact ⟨k + 1, Hk.out, by go_num, hB2.out⟩
      case measure => simp [intOf]; omega
    · obtain rfl : k = n := by omega
      clear hlt hk
      go_wp2
      go_ret
      exact ⟨rfl, hB⟩
end Go.Proofs.Ytllnocffmlagjaa
