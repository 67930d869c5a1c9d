/- law07.HashParts returns true and turns nothing that lay. Conditions: its argument reads as byte slices. -/
import Derived.Laws.BytesArg
import Derived.Test.YtllnocffmlagjaaL0
import Derived.Test.YtllnocffmlagjaaF2
set_option linter.unusedVariables false
namespace Go.Proofs.Ytllnocffmlagjaa
open Go.RowKit
attribute [local go_sem] flowAt flowUpon

/-- string(v) of a byte slice. -/
theorem conv_str (w : World) (v : Value) (bs : List UInt8) (h : Sl w v (bv bs)) : (convert 22 9 v).run Try.prog w = .ok (.string (strOfNums (bs.map V8))) w := by
  obtain ⟨a, cap, rfl, hl, _, hn, hr⟩ := h.openB
  rcases Nat.eq_zero_or_pos bs.length with h0 | h0
  · obtain rfl := List.eq_nil_of_length_eq_zero h0
    rcases a with _ | ad
    · rw [run_convert_bytes_nil w 22 5 Try.underlying22 Try.underlying5 _ _ 9 Try.underlying9]; rfl
    · rw [run_convert_bytes_string w 22 9 5 _ _ _ Try.underlying22 Try.underlying5 Try.underlying9]
      exact run_bytesToString w ad 0 cap [] (by simp [loadCells, loadCellsFrom, Sem.run_pure])
  · obtain ⟨b, o, rfl, _⟩ := hr.byte 0 h0
    refine run_convert_bytes_arg w 22 5 Try.underlying22 Try.underlying5 b o bs.length cap (bs.map V8) (by simp) (fun i hi => ?_) 9 Try.underlying9
    obtain ⟨b', o', e, hc⟩ := hr.byte i hi
    cases e
    rw [hc]
    simp [List.getD_eq_getElem?_getD, hi]
/-- len(v) of a byte slice. -/
theorem len_sl (w : World) (v : Value) (bs : List UInt8) (h : Sl w v (bv bs)) : (Builtin.len_ #[22] 3 #[v]).run Try.prog w = .ok (.int .i64 bs.length) w := by
  obtain ⟨a, cap, rfl, h1, h2, _, _⟩ := h.openB
  have : bs.length ≤ 9223372036854775807 := Nat.le_trans h1 h2
  go_simp
theorem lives_parts (v : Value) (pss : List (List UInt8)) : Lives (fun w => Parts w v pss) := fun _ _ h hb => h.below hb

/-- hash.Sum again: for a region that draws. -/
theorem sum_ret (w : World) (v : Value) (pss : List (List UInt8)) (bs : List UInt8) (hv : Parts w v pss) (hl : pss.flatten.length ≤ 140737488354000) (hn : pss.length ≤ 140737488355000) (hb : pss.flatten = bs) :
    Calls Try.prog 13 #[v] w (RetIn w (fun u w' => Sl w' u (bv (sha bs)))) := by
  subst hb
  exact (sum_any w v pss hv hl hn).mono fun e w' ⟨r, he, ho⟩ => ⟨r, he, ho.2, ho.sl⟩

theorem tot_small (pss : List (List UInt8)) (h : ∀ i, i < pss.length → (pss.getD i []).length ≤ 100) : ∀ k, k ≤ pss.length → tot pss k ≤ 100 * k := by
  intro k
  induction k with
  | zero => intro _; simp [tot]
  | succ k ih => intro hk; rw [tot_succ pss k (by omega)]; have := ih (by omega); have := h k (by omega); omega

set_option maxRecDepth 100000 in
set_option maxHeartbeats 1000000 in
theorem hashParts_any (w : World) (v : Value) (pss : List (List UInt8)) (hv : Parts w v pss) :
    Calls Try.prog 4 #[v] w fun e w' => e = .returned (.bool true) ∧ Below w.heap.size w w' := by
  obtain ⟨a, cap, rfl, hc⟩ := hv.opened
  have hnm : pss.length ≤ 9223372036854775807 := by
    obtain ⟨vs, ⟨a', cap', h1, h2, h3, _⟩, h4, _⟩ := hv
    rw [← h4]; exact Nat.le_trans h2 h3
  have HV := Lib.hid hv
  have HC := Lib.hid hc
  clear hc hv
  have HB := Lib.hid (Below.refl w.heap.size w)
  by_cases h20 : 20 < pss.length
  · obtain ⟨n, hn⟩ : ∃ n, pss.length = n := ⟨_, rfl⟩
    rw [hn] at hnm h20 ⊢
    have h20' : (20 : Int) < n := by omega
    clear HC HV
    go_enter Try.func4, Try.ntmps4
    go_wp2_with (go_at_call 12; refine (lives07 _).mono ?_; rintro e w1 ⟨rfl, hB⟩; replace HB := Lib.hid (below_then HB.out HB.out.size hB); clear hB)
    go_ret
    exact ⟨rfl, HB.out⟩
  · obtain ⟨n, hn⟩ : ∃ n, pss.length = n := ⟨_, rfl⟩
    have HT := Lib.hid (fun k h => take_snoc pss k h)
    have HZ := Lib.hid (List.take_length (l := pss))
    rw [hn] at hnm h20 HC HT HZ ⊢
    have h20' : (n : Int) ≤ 20 := by omega
    go_enter Try.func4, Try.ntmps4
    go_wp2_with (go_at_call 12; refine (lives07 _).mono ?_; rintro e w1 ⟨rfl, hB⟩; replace HB := Lib.hid (below_then HB.out HB.out.size hB); clear hB)
    go_loopw [3, 5, 16] (fun out _ i wr => ∃ (k : Nat) (cs : List UInt8), k ≤ n ∧ Hid (cs = (pss.take k).flatten) ∧ cs.length ≤ 100 * k ∧ i = .int .i64 k ∧ OB w wr out cs) (fun _ _ i _ => (n - intOf i).toNat)
    case atStart => exact ⟨0, [], by omega, rfl, by simp, rfl, OB.nil HB.out⟩
    case round =>
      obtain ⟨k, cs, hk, hcs, hcl, rfl, hOB⟩ := hrel
      by_cases hlt : k < n
      · obtain ⟨b, o, u, rfl, hcell, hsl⟩ := HC.out k hlt
        obtain ⟨A, cap1, rfl⟩ := hOB.shape
        replace hcell := (hOB.2.cell (World.block_lt_of_cell? w _ hcell)).trans hcell
        replace hsl := hsl.below hOB.2
        have hlt' : (k : Int) < n := by omega
        have hcs2 : Hid (cs ++ pss.getD k [] = (pss.take (k + 1)).flatten) := by rw [Hid, HT.out k hlt, hcs.out]
        obtain ⟨a1, c1, rfl, hm1, hm2, _, _⟩ := hsl.openB
        have hm : (pss.getD k []).length ≤ 9223372036854775807 := Nat.le_trans hm1 hm2
        generalize pss.getD k [] = ys at *
        by_cases h100 : 100 < ys.length
        · have h100' : (100 : Int) < ys.length := by omega
          generalize ys.length = m at *
          have HB2 := Lib.hid hOB.2
          clear hm1 hm2 hcl hk hsl hOB
          go_wp2
          go_ret
          exact ⟨rfl, HB2.out⟩
        · have h100' : (ys.length : Int) ≤ 100 := by omega
          clear hm1 hm2 hm
          go_wp2_with (at_builtin; refine wpL_cat w _ rfl _ _ rfl _ _ rfl hOB _ _ rfl hsl _ rfl (by omega) ?_; intro A2 cap2 w3 hO3)
          go_roundw
          case rel => exact ⟨k + 1, _, by omega, hcs2, by rw [List.length_append]; omega, by go_num, hO3⟩
          case measure => simp [intOf]; omega
      · obtain rfl : k = n := by omega
        rw [HZ.out] at hcs
        have hsl := hOB.sl
        have hV := HV.out.below hOB.2
        rw [hn] at hV
        have hB := hOB.2
        have hlen : pss.flatten.length ≤ 2000 := by rw [← hcs.out]; omega
        obtain ⟨A, cap1, rfl⟩ := hOB.shape
        rw [hcs.out] at hsl
        rw [hcs.out]
        generalize hbs : pss.flatten = bs at *
        have hnp : pss.length ≤ 140737488355000 := by omega
        clear hOB hcs hlt hk
        go_wp2
        refine wp_flowC 16 (by kernel_rfl) (by kernel_rfl) (fun w' => (Parts w' (.slice a k cap) pss ∧ Sl w' (.slice A bs.length cap1) (bv bs)) ∧ Below w.heap.size w w')
          (lives_and (lives_and (lives_parts _ _) (lives_sl _ _)) (fun x y h hb => below_then h h.size hb)) ⟨⟨hV, hsl⟩, hB⟩ ?_
        simp only [List.take_succ_cons, List.take_zero, List.drop_succ_cons, List.drop_zero]
        refine' flow_D0 rfl (fun ν w2 hC hD => ?_) ?_; rotate_left
        · clear hC hD; go_simp; exact ⟨Below.refl _ _, rfl⟩
        simp only [Act.put, List.setIfInBounds_toArray, List.set_cons_zero, List.set_cons_succ]
        refine' flow_N0 (fun u w' => Sl w' u (bv (sha bs))) (fun _ => lives_sl _ _) rfl (fun ν w2 hC hD => ?_) ?_
        · have hs := sum_ret w2 _ _ bs hC.1.1 (by rw [hbs]; omega) hnp hbs 
          clear hC hD; go_simp; exact Below.refl _ _
        simp only [Act.put, List.setIfInBounds_toArray, List.set_cons_zero, List.set_cons_succ]
        refine' flow_D0 (e := .string (strOfNums ((sha bs).map V8))) rfl (fun ν w2 hC hD => ?_) ?_
        · have hs := conv_str w2 _ _ (hD.2 (by kernel_rfl))
          clear hC hD
          go_simp; exact ⟨Below.refl _ _, rfl⟩
        simp only [Act.put, List.setIfInBounds_toArray, List.set_cons_zero, List.set_cons_succ]
        refine' flow_D0 rfl (fun ν w2 hC hD => ?_) ?_; rotate_left
        · clear hC hD; go_simp; exact ⟨Below.refl _ _, rfl⟩
        simp only [Act.put, List.setIfInBounds_toArray, List.set_cons_zero, List.set_cons_succ]
        refine' flow_N0 (fun u w' => Parts w' u [bs]) (fun _ => lives_parts _ _) rfl (fun ν w2 hC hD => ?_) ?_
        · have hp := Parts.one w2 _ bs hC.1.2
          clear hC hD; go_simp; exact (Below.refl _ _).alloc (Nat.le_refl _) _
        simp only [Act.put, List.setIfInBounds_toArray, List.set_cons_zero, List.set_cons_succ]
        refine' flow_N0 (fun u w' => Sl w' u (bv (sha bs))) (fun _ => lives_sl _ _) rfl (fun ν w2 hC hD => ?_) ?_
        · have hs := sum_ret w2 _ _ bs (hD.2 (by kernel_rfl)) (by simp; omega) (by simp) (by simp) 
          clear hC hD; go_simp; exact Below.refl _ _
        simp only [Act.put, List.setIfInBounds_toArray, List.set_cons_zero, List.set_cons_succ]
        refine' flow_D0 (e := .string (strOfNums ((sha bs).map V8))) rfl (fun ν w2 hC hD => ?_) ?_
        · have hs := conv_str w2 _ _ (hD.2 (by kernel_rfl))
          clear hC hD
          go_simp; exact ⟨Below.refl _ _, rfl⟩
        simp only [Act.put, List.setIfInBounds_toArray, List.set_cons_zero, List.set_cons_succ]
        refine' flow_D0 rfl (fun ν w2 hC hD => ?_) ?_; rotate_left
        · clear hC hD; go_simp; exact ⟨Below.refl _ _, rfl⟩
        simp only [Act.put, List.setIfInBounds_toArray, List.set_cons_zero, List.set_cons_succ]
        refine' flow_D0 rfl (fun ν w2 hC hD => ?_) ?_; rotate_left
        · clear hC hD; go_simp; exact ⟨Below.refl _ _, rfl⟩
        simp only [Act.put, List.setIfInBounds_toArray, List.set_cons_zero, List.set_cons_succ]
        refine' flow_D (fun ν => rfl) (fun ν w2 hC hD => ?_) ?_; rotate_left
        · clear hC hD; go_simp; exact ⟨Below.refl _ _, rfl⟩
        simp only [Act.put, List.setIfInBounds_toArray, List.set_cons_zero, List.set_cons_succ]
        refine' flow_N (fun u w' => Parts w' u [bs]) (fun _ => lives_parts _ _) (fun ν => rfl) (fun ν w2 hC hD => ?_) ?_
        · have hp := Parts.one w2 _ bs hC.1.2
          clear hC hD; go_simp; exact (Below.refl _ _).alloc (Nat.le_refl _) _
        simp only [Act.put, List.setIfInBounds_toArray, List.set_cons_zero, List.set_cons_succ]
        refine' flow_N (fun u w' => Sl w' u (bv (sha bs))) (fun _ => lives_sl _ _) (fun ν => rfl) (fun ν w2 hC hD => ?_) ?_
        · have hs := sum_ret w2 _ _ bs (hD.2 (by kernel_rfl)) (by simp; omega) (by simp) (by simp) 
          clear hC hD; go_simp; exact Below.refl _ _
        simp only [Act.put, List.setIfInBounds_toArray, List.set_cons_zero, List.set_cons_succ]
        refine' flow_D (e := .int .i64 32) (fun ν => rfl) (fun ν w2 hC hD => ?_) ?_
        · have hs := len_sl w2 _ _ (hD.2 (by kernel_rfl))
          rw [sha_length] at hs
          clear hC hD
          go_simp
          exact ⟨Below.refl _ _, rfl⟩
        simp only [Act.put, List.setIfInBounds_toArray, List.set_cons_zero, List.set_cons_succ]
        refine' flow_D (fun ν => rfl) (fun ν w2 hC hD => ?_) ?_; rotate_left
        · clear hC hD; go_simp; exact ⟨Below.refl _ _, rfl⟩
        simp only [Act.put, List.setIfInBounds_toArray, List.set_cons_zero, List.set_cons_succ]
        refine' flow_D0 rfl (fun ν w2 hC hD => ?_) ?_; rotate_left
        · clear hC hD; go_simp; exact ⟨Below.refl _ _, rfl⟩
        simp only [Act.put, List.setIfInBounds_toArray, List.set_cons_zero, List.set_cons_succ]
        refine' flow_D0 rfl (fun ν w2 hC hD => ?_) ?_; rotate_left
        · clear hC hD; go_simp; exact ⟨Below.refl _ _, rfl⟩
        simp only [Act.put, List.setIfInBounds_toArray, List.set_cons_zero, List.set_cons_succ]
        refine flow_nil ?_
        intro ν w2 hC hG
        have hB2 := Lib.hid hC.2
        clear hC hG
        go_wp2
        go_ret
        exact ⟨rfl, hB2.out⟩
end Go.Proofs.Ytllnocffmlagjaa
