/- Contracts of tally.Tree and ref32.Tree. Conditions: at most 20 items, each within 1000 bytes. -/
import Derived.Test.YtllnocffmlagjaaT1
import Derived.Test.YtllnocffmlagjaaL2
set_option linter.unusedVariables false
namespace Go.Proofs.Ytllnocffmlagjaa
open Go.RowKit
attribute [local go_sem] flowAt flowUpon

def treeF : Nat → List (List UInt8) → List UInt8
  | 0, _ => sha []
  | f + 1, ps => if ps.length = 0 then sha [] else if ps.length = 1 then leafH (ps.getD 0 []) else bothH (treeF f (ps.take (lf ps.length))) (treeF f (ps.drop (lf ps.length)))
theorem treeF_length : ∀ f ps, (treeF f ps).length = 32
  | 0, _ => sha_length _
  | f + 1, ps => by
    unfold treeF
    split
    · exact sha_length _
    · split
      · exact sha_length _
      · exact sha_length _
def Small (ps : List (List UInt8)) : Prop := ps.length ≤ 20 ∧ ∀ i, i < ps.length → (ps.getD i []).length ≤ 1000
theorem Small.take {ps : List (List UInt8)} (h : Small ps) (k : Nat) : Small (ps.take k) := by
  refine ⟨by rw [List.length_take]; have := h.1; omega, fun i hi => ?_⟩
  rw [List.length_take] at hi
  have := h.2 i (by omega)
  rw [List.getD_eq_getElem?_getD, List.getElem?_take, if_pos (by omega), ← List.getD_eq_getElem?_getD]; exact this
theorem Small.drop {ps : List (List UInt8)} (h : Small ps) (k : Nat) : Small (ps.drop k) := by
  refine ⟨by rw [List.length_drop]; have := h.1; omega, fun i hi => ?_⟩
  rw [List.length_drop] at hi
  have := h.2 (k + i) (by omega)
  rw [List.getD_eq_getElem?_getD, List.getElem?_drop, ← List.getD_eq_getElem?_getD]; exact this
theorem Parts.take {w : World} {b o n cap : Nat} {ps : List (List UInt8)} (h : Parts w (.slice (some ⟨b, o, none⟩) n cap) ps) (k : Nat) (hk : k ≤ n) : Parts w (.slice (some ⟨b, o, none⟩) k cap) (ps.take k) := by
  obtain ⟨vs, ⟨a, c, he, h1, h2, h3, h4⟩, h5, h6⟩ := h
  cases he
  refine ⟨vs.take k, ⟨some ⟨b, o, none⟩, cap, by rw [List.length_take, Nat.min_eq_left hk], by rw [List.length_take]; omega, h2, nofun, fun i hi => ?_⟩, by rw [List.length_take, List.length_take, h5], fun i hi => ?_⟩
  · rw [List.length_take] at hi
    obtain ⟨b', o', e, hc⟩ := h4 i (by omega)
    refine ⟨b', o', e, ?_⟩
    rw [hc, List.getD_eq_getElem?_getD, List.getD_eq_getElem?_getD, List.getElem?_take, if_pos (by omega)]
  · rw [List.length_take] at hi
    have := h6 i (by omega)
    rw [List.getD_eq_getElem?_getD, List.getElem?_take, if_pos (by omega), ← List.getD_eq_getElem?_getD, List.getD_eq_getElem?_getD (l := ps.take k), List.getElem?_take, if_pos (by omega), ← List.getD_eq_getElem?_getD]
    exact this
theorem Parts.drop {w : World} {b o n cap : Nat} {ps : List (List UInt8)} (h : Parts w (.slice (some ⟨b, o, none⟩) n cap) ps) (k : Nat) (hk : k ≤ n) : Parts w (.slice (some ⟨b, o + k, none⟩) (n - k) (cap - k)) (ps.drop k) := by
  obtain ⟨vs, ⟨a, c, he, h1, h2, h3, h4⟩, h5, h6⟩ := h
  cases he
  refine ⟨vs.drop k, ⟨some ⟨b, o + k, none⟩, cap - k, by rw [List.length_drop], by rw [List.length_drop]; omega, by omega, nofun, fun i hi => ?_⟩, by rw [List.length_drop, List.length_drop, h5], fun i hi => ?_⟩
  · rw [List.length_drop] at hi
    obtain ⟨b', o', e, hc⟩ := h4 (k + i) (by omega)
    cases e
    refine ⟨b, o + k, rfl, ?_⟩
    rw [Nat.add_assoc, hc, List.getD_eq_getElem?_getD, List.getD_eq_getElem?_getD, List.getElem?_drop]
  · rw [List.length_drop] at hi
    have := h6 (k + i) (by omega)
    rw [List.getD_eq_getElem?_getD, List.getElem?_drop, ← List.getD_eq_getElem?_getD, List.getD_eq_getElem?_getD (l := ps.drop k), List.getElem?_drop, ← List.getD_eq_getElem?_getD]
    exact this
theorem Parts.shape {w : World} {v : Value} {ps : List (List UInt8)} (h : Parts w v ps) : ∃ a cap, v = .slice a ps.length cap ∧ ps.length ≤ cap ∧ cap ≤ maxLen ∧ (0 < ps.length → ∃ b o, a = some ⟨b, o, none⟩) := by
  obtain ⟨vs, ⟨a, c, rfl, h1, h2, h3, h4⟩, h5, h6⟩ := h
  refine ⟨a, c, by rw [h5], by omega, h2, fun hp => ?_⟩
  obtain ⟨b, o, e, _⟩ := h4 0 (by omega)
  exact ⟨b, o, e⟩
theorem Parts.nil (w : World) : Parts w (.slice none 0 0) [] := ⟨[], ⟨none, 0, rfl, Nat.le_refl _, by simp [maxLen], fun _ => rfl, Rd.nil⟩, rfl, fun i hi => absurd hi (by simp)⟩
theorem lives_parts' (v : Value) (ps : List (List UInt8)) : Lives (fun w => Parts w v ps) := fun _ _ h hb => h.below hb
theorem ret_of {w : World} {f : FuncId} {args : Array Value} {bs : List UInt8} (h : Calls Try.prog f args w fun e w' => ∃ r, e = .returned r ∧ OB w w' r bs) : Calls Try.prog f args w (RetIn w (fun u w' => Sl w' u (bv bs))) :=
  h.mono fun e w' ⟨r, he, ho⟩ => ⟨r, he, ho.2, ho.sl⟩
theorem ret_ob {W w : World} (hB : Below W.heap.size W w) {f : FuncId} {args : Array Value} {bs : List UInt8} (h : Calls Try.prog f args w fun e w' => ∃ r, e = .returned r ∧ OB w w' r bs) : Calls Try.prog f args w (RetIn w (fun u w' => OB W w' u bs)) :=
  h.mono fun e w' ⟨r, he, ho⟩ => ⟨r, he, ho.2, own_rebase ho.1 hB.size, below_then hB hB.size ho.2⟩

set_option maxRecDepth 100000 in
set_option maxHeartbeats 1000000 in
theorem tree_any : ∀ (f : Nat) (w : World) (v : Value) (ps : List (List UInt8)), ps.length ≤ f → Small ps → Parts w v ps →
    Calls Try.prog 24 #[v] w fun e w' => ∃ r, e = .returned r ∧ OB w w' r (treeF f ps) := by
  intro f
  induction f with
  | zero =>
    intro w v ps hf hs hp
    obtain ⟨a, cap, rfl, hc, hm, _⟩ := hp.shape
    obtain rfl : ps = [] := List.eq_nil_of_length_eq_zero (by omega)
    have hc := sum_any w _ [] (Parts.nil w) (by simp) (by simp)
    go_enter Try.func24, Try.ntmps24
    go_wp2_with (go_at_call 13; refine hc.mono ?_; rintro e w1 ⟨r, rfl, hO⟩; clear hc)
    go_ret
    exact ⟨_, rfl, hO⟩
  | succ f ih =>
    intro w v ps hf hs hp
    obtain ⟨a, cap, rfl, hc, hm, hne⟩ := hp.shape
    unfold treeF
    by_cases h0 : ps.length = 0
    · obtain rfl : ps = [] := List.eq_nil_of_length_eq_zero h0
      rw [if_pos h0]
      have hc := sum_any w _ [] (Parts.nil w) (by simp) (by simp)
      clear ih hf hs hp hne hm
      go_enter Try.func24, Try.ntmps24
      go_wp2_with (go_at_call 13; refine hc.mono ?_; rintro e w1 ⟨r, rfl, hO⟩; clear hc)
      go_ret
      exact ⟨_, rfl, hO⟩
    · rw [if_neg h0]
      obtain ⟨b, o, rfl⟩ := hne (by omega)
      by_cases h1 : ps.length = 1
      · rw [if_pos h1]
        obtain ⟨_, _, he, hcell⟩ := hp.opened
        cases he
        obtain ⟨b', o', u, e, hcu, hsu⟩ := hcell 0 (by omega)
        cases e
        have hi := item_any w u _ hsu (by have := hs.2 0 (by omega); omega)
        rw [Nat.add_zero] at hcu
        rw [h1] at hc ⊢
        generalize leafH (ps.getD 0 []) = L at *
        clear ih hf hs hp hne hcell hsu h0 h1
        go_enter Try.func24, Try.ntmps24
        go_wp2_with (go_at_call 67; refine hi.mono ?_; rintro e w1 ⟨r, rfl, hO⟩; clear hi)
        go_ret
        exact ⟨_, rfl, hO⟩
      · rw [if_neg h1]
        obtain ⟨n, hn⟩ : ∃ n, ps.length = n := ⟨_, rfl⟩
        obtain ⟨k, hk⟩ : ∃ k, lf n = k := ⟨_, rfl⟩
        rw [hn] at h0 h1 hc hf hne hp ⊢
        rw [hk]
        have h20 : n ≤ 20 := by have := hs.1; omega
        obtain ⟨k1, kn, k16, _, _, _⟩ := lf_table n (by omega) (by omega)
        rw [hk] at k1 kn k16
        have hl := left_any w n (by omega) h20
        rw [hk] at hl
        have HN := Lib.hid hn
        have HF := Lib.hid hf
        have HS := Lib.hid hs
        have HIH := Lib.hid ih
        have HP := Lib.hid hp
        have n0 : ¬ ((n : Int) = 0) := by omega
        have n1 : ¬ ((n : Int) = 1) := by omega
        have kc : (k : Int) ≤ cap := by omega
        have kn' : (k : Int) ≤ n := by omega
        have knc : ¬ cap = k := by omega
        clear ih hs hp hne hf hn hk h0 h1
        go_enter Try.func24, Try.ntmps24
        go_wp2_with (go_at_call 68; refine hl.mono ?_; rintro e w1 ⟨rfl, rfl⟩; clear hl)
        refine wp_flowC 9 (by kernel_rfl) (by kernel_rfl) (fun w' => Parts w' (.slice (some ⟨b, o, none⟩) n cap) ps ∧ Below w1.heap.size w1 w')
          (lives_and (lives_parts' _ _) (lives_below _)) ⟨HP.out, Below.refl _ _⟩ ?_
        simp only [List.take_succ_cons, List.take_zero, List.drop_succ_cons, List.drop_zero]
        iterate 2
          refine' flow_D0 rfl (fun ν w2 hC hD => ?_) ?_; rotate_left
          · clear hC hD; go_simp; exact ⟨Below.refl _ _, rfl⟩
          simp only [Act.put, List.setIfInBounds_toArray, List.set_cons_zero, List.set_cons_succ]
        refine' flow_D0 (e := .slice (some ⟨b, o, none⟩) k cap) rfl (fun ν w2 hC hD => ?_) ?_
        · clear hC hD; go_simp; exact ⟨Below.refl _ _, rfl⟩
        simp only [Act.put, List.setIfInBounds_toArray, List.set_cons_zero, List.set_cons_succ]
        refine' flow_N0 (fun u w' => Sl w' u (bv (treeF f (ps.take k)))) (fun _ => lives_sl _ _) rfl (fun ν w2 hC hD => ?_) ?_
        · have hs := ret_of (HIH.out w2 _ (ps.take k) (by rw [List.length_take]; have := HF.out; have := HN.out; omega) (HS.out.take k) (hC.1.take k (by omega)))
          clear hC hD; go_simp; exact Below.refl _ _
        simp only [Act.put, List.setIfInBounds_toArray, List.set_cons_zero, List.set_cons_succ]
        iterate 2
          refine' flow_D0 rfl (fun ν w2 hC hD => ?_) ?_; rotate_left
          · clear hC hD; go_simp; exact ⟨Below.refl _ _, rfl⟩
          simp only [Act.put, List.setIfInBounds_toArray, List.set_cons_zero, List.set_cons_succ]
        refine' flow_D0 (e := .slice (some ⟨b, o + k, none⟩) (n - k) (cap - k)) rfl (fun ν w2 hC hD => ?_) ?_
        · clear hC hD; go_simp; exact ⟨Below.refl _ _, rfl⟩
        simp only [Act.put, List.setIfInBounds_toArray, List.set_cons_zero, List.set_cons_succ]
        refine' flow_N0 (fun u w' => Sl w' u (bv (treeF f (ps.drop k)))) (fun _ => lives_sl _ _) rfl (fun ν w2 hC hD => ?_) ?_
        · have hs := ret_of (HIH.out w2 _ (ps.drop k) (by rw [List.length_drop]; have := HF.out; have := HN.out; omega) (HS.out.drop k) (hC.1.drop k (by omega)))
          clear hC hD; go_simp; exact Below.refl _ _
        simp only [Act.put, List.setIfInBounds_toArray, List.set_cons_zero, List.set_cons_succ]
        refine' flow_N0 (fun u w' => OB w1 w' u (bothH (treeF f (ps.take k)) (treeF f (ps.drop k)))) (fun _ => lives_ob _ _ _) rfl (fun ν w2 hC hD => ?_) ?_
        · have hs := ret_ob hC.2 (both_any w2 _ _ _ _ (hD.1.2 (by kernel_rfl)) (hD.2 (by kernel_rfl)) (by rw [treeF_length, treeF_length]; omega))
          clear hC hD; go_simp; exact Below.refl _ _
        simp only [Act.put, List.setIfInBounds_toArray, List.set_cons_zero, List.set_cons_succ]
        refine flow_nil ?_
        intro ν w2 hC hG
        have hO := hG.2
        clear hC hG
        go_wp2
        go_ret
        exact ⟨_, rfl, hO⟩
end Go.Proofs.Ytllnocffmlagjaa
