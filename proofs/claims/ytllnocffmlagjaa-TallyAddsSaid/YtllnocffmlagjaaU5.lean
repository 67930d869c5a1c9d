/- law32.TallyAdds returns true and turns nothing that lay. Conditions: its argument reads as byte slices. -/
import Derived.Test.YtllnocffmlagjaaU4
set_option linter.unusedVariables false
namespace Go.Proofs.Ytllnocffmlagjaa
open Go.RowKit
attribute [local go_sem] flowAt flowUpon

theorem v8_x255 (a : UInt8) : bits .xor .u8 (V8 a) 255 = V8 (a ^^^ 255) := v8_xor a 255
attribute [local go_sem] v8_x255
theorem root_any (w0 w : World) (P k : Nat) (ps : List (List UInt8)) (rv : Value) (vs : List Value) (hT : TI w0 w P k (rootsN ps k) rv vs) (hk : k ≤ ps.length) (h20 : k ≤ 20) :
    Calls Try.prog 34 #[.pointer (some ⟨P, 0, none⟩)] w fun e w' => ∃ r, e = .returned r ∧ OB w w' r (treeF 20 (ps.take k)) := by
  by_cases h0 : k = 0
  · subst h0
    exact troot_zero w P rv hT.ptr
  · rw [← root_tree ps k (by omega) h20 hk]
    have hl := rootsN_len ps k (by omega)
    have h8 : ∀ f m, pcF f m ≤ f := by
      intro f
      induction f with
      | zero => intro m; simp [pcF]
      | succ f ih => intro m; have := ih (m / 2); rw [pcF_succ]; omega
    have hp : ∀ k, k < 21 → k ≠ 0 → 1 ≤ pcF 8 k := by decide
    exact troot_any w0 w P k (rootsN ps k) rv vs hT (by omega) (by rw [hl]; exact hp k (by omega) h0) (by rw [hl]; have := h8 8 k; omega) (rootsN_32 ps k)
theorem TI.setOwn {w0 w : World} {P n B X m cap : Nat} {rs : List (List UInt8)} {rv : Value} {vs : List Value} {xs : List Value} (h : TI w0 w P n rs rv vs) (ho : w.ownsRow B 5 1 (.slice (some ⟨X, 0, none⟩) m cap) m xs) (hB : w0.heap.size ≤ B) (ha : Av vs X) (j : Nat) (u : Value) :
    TI w0 (w.setCell ⟨X, j, none⟩ u) P n rs rv vs := by
  have hg := grown_setCell w X j u
  obtain ⟨cur, hX⟩ : ∃ cur, w.heap[X]? = some (.cells cur 5 (0, 0)) := by
    rcases ho.2 with ⟨h1, _⟩ | ⟨g, c, cur, h1, _, hg, _⟩
    · cases h1
    · cases h1; exact ⟨cur, hg⟩
  have hXB : B ≤ X := own_base' ho X rfl
  refine ⟨?_, h.base, own_setP hX h.row (by decide), h.len, fun i hi => (h.el i hi).kept hg (.inr (ha i (by rw [h.len]; exact hi))), h.below.setCell (Nat.le_trans hB hXB) _⟩
  rw [hg.block P (Array.getElem?_eq_some_iff.1 h.ptr).1]
  · exact h.ptr
  · intro e
    have : P = X := Option.some.inj e
    subst this
    have := h.ptr
    rw [hX] at this; cases this
theorem bv_at {w : World} {B m cap X : Nat} {zs : List UInt8} (ho : w.ownsRow B 5 1 (.slice (some ⟨X, 0, none⟩) m cap) m (bv zs)) (j : Nat) (hj : j < m) :
    w.cell? ⟨X, j, none⟩ = some (.int .u8 (V8 (zs.getD j 0))) ∧ w.frozen? ⟨X, j, none⟩ = false ∧ ∀ y : UInt8, (w.setCell ⟨X, j, none⟩ (.int .u8 (V8 y))).ownsRow B 5 1 (.slice (some ⟨X, 0, none⟩) m cap) m (bv (zs.set j y)) := by
  have hl : zs.length = m := by have := ho.1; rw [bv_length] at this; omega
  refine ⟨?_, ho.frozenAt j, fun y => ?_⟩
  · rw [ho.cellAt j (by omega), bv, List.getElem?_map, List.getElem?_eq_getElem (by omega)]
    simp [List.getD_eq_getElem?_getD, show j < zs.length by omega]
  · have := (ho.stored j (.int .u8 (V8 y))).1
    rw [bv_set] at this; exact this

theorem TI.av_new {w0 w : World} {P n X : Nat} {rs : List (List UInt8)} {rv : Value} {vs : List Value} (h : TI w0 w P n rs rv vs) (hX : w.heap.size ≤ X) : Av vs X := by
  intro i hi e
  have := (h.el i (by rw [← h.len]; exact hi)).lt X e
  omega
set_option maxRecDepth 100000 in
set_option maxHeartbeats 4000000 in
theorem tallyAdds_any (w : World) (v : Value) (ps : List (List UInt8)) (hp : Parts w v ps) :
    Calls Try.prog 8 #[v] w fun e w' => e = .returned (.bool true) ∧ Below w.heap.size w w' := by
  obtain ⟨a, cap, rfl, hc, hm, hne⟩ := hp.shape
  have hnm : ps.length ≤ 9223372036854775807 := Nat.le_trans hc hm
  obtain ⟨n, hn⟩ : ∃ n, ps.length = n := ⟨_, rfl⟩
  obtain ⟨_, _, he, hcell⟩ := hp.opened
  cases he
  rw [hn] at hcell
  have HC := Lib.hid hcell
  clear hcell
  have HN := Lib.hid hn
  rw [hn] at hp hnm hc hne ⊢
  have HV := Lib.hid hp
  have HB := Lib.hid (Below.refl w.heap.size w)
  have HE := Lib.hid hne
  clear hp hn hne
  by_cases hf : Few32 ps
  · have HF := Lib.hid hf
    have hn20 : n ≤ 20 := by have := hf.1; have := HN.out; omega
    have hn20' : (n : Int) ≤ 20 := by omega
    clear hf
    go_enter Try.func8, Try.ntmps8
    go_wp2_with (first
      | (go_at_call 22; refine (lives32 _).mono ?_; rintro e w1 ⟨rfl, hB⟩; replace HB := Lib.hid (below_then HB.out HB.out.size hB); clear hB)
      | (go_at_call 23; refine (few32_yes _ _ ps (HV.out.below HB.out) HF.out).mono ?_; rintro e w2 ⟨rfl, rfl⟩)
      | (go_at_call 32; refine (tnew_any _).mono ?_; rintro e w3 ⟨rfl, rfl⟩))
    -- BODY
    have hT0 := TI.new w2
    have HBn := Lib.hid (HB.out.alloc HB.out.size (.cells #[.int .i64 0, .slice none 0 0] 105))
    obtain ⟨w3, hw3⟩ : ∃ w3, w3 = w2 := ⟨_, rfl⟩
    rw [← hw3] at hT0 HB HBn ⊢
    clear hw3
    have HT0 := Lib.hid hT0
    clear hT0
    generalize hW0 : w3.alloc (.cells #[.int .i64 0, .slice none 0 0] 105) = W0 at *
    go_loopw [21] (fun i wr => ∃ (k : Nat) (rv : Value) (vs : List Value), k ≤ n ∧ i = .int .i64 k ∧ Hid (TI w3 wr w3.heap.size k (rootsN ps k) rv vs)) (fun i _ => (n - intOf i).toNat)
    case atStart => exact ⟨0, _, _, by omega, rfl, HT0.out⟩
    case round =>
      obtain ⟨k, rv, vs, hk, rfl, HT⟩ := hrel
      have hBr := below_then HB.out HB.out.size HT.out.below
      have HBr := Lib.hid hBr
      by_cases hlt : k < n
      · have hlt' : (k : Int) < n := by omega
        have hkc : (k : Int) ≤ cap := by omega
        have HVr := Lib.hid (HV.out.below hBr)
        obtain ⟨b, o, rfl⟩ := HE.out (by omega)
        clear hBr
        go_wp2
        refine wp_flowC 26 (by kernel_rfl) (by kernel_rfl) (fun w' => Below wr.heap.size wr w') (lives_below _) (Below.refl _ _) ?_
        simp only [List.take_succ_cons, List.take_zero, List.drop_succ_cons, List.drop_zero]
        refine' flow_D0 rfl (fun ν w2 hC hD => ?_) ?_; rotate_left
        · clear hC hD; go_simp; exact ⟨Below.refl _ _, rfl⟩
        simp only [Act.put, List.setIfInBounds_toArray, List.set_cons_zero, List.set_cons_succ]
        refine' flow_D0 (e := .int .i64 k) rfl (fun ν w2 hC hD => ?_) ?_
        · have hs := (tlen_any w2 w3.heap.size k rv (HT.out.later hC).ptr).mono (R' := RetIn w2 (Yv (.int .i64 k))) (fun e w' ⟨he, hw⟩ => ⟨_, he, by rw [hw]; exact Below.refl _ _, rfl⟩)
          clear hC hD; go_simp; exact Below.refl _ _
        simp only [Act.put, List.setIfInBounds_toArray, List.set_cons_zero, List.set_cons_succ]
        refine' flow_D0 rfl (fun ν w2 hC hD => ?_) ?_; rotate_left
        · clear hC hD; go_simp; exact ⟨Below.refl _ _, rfl⟩
        simp only [Act.put, List.setIfInBounds_toArray, List.set_cons_zero, List.set_cons_succ]
        refine' flow_D0 rfl (fun ν w2 hC hD => ?_) ?_; rotate_left
        · clear hC hD; go_simp; exact ⟨Below.refl _ _, rfl⟩
        simp only [Act.put, List.setIfInBounds_toArray, List.set_cons_zero, List.set_cons_succ]
        refine' flow_D0 rfl (fun ν w2 hC hD => ?_) ?_; rotate_left
        · clear hC hD; go_simp; exact ⟨Below.refl _ _, rfl⟩
        simp only [Act.put, List.setIfInBounds_toArray, List.set_cons_zero, List.set_cons_succ]
        refine' flow_D (fun ν => rfl) (fun ν w2 hC hD => ?_) ?_; rotate_left
        · clear hC hD; go_simp; exact ⟨Below.refl _ _, rfl⟩
        simp only [Act.put, List.setIfInBounds_toArray, List.set_cons_zero, List.set_cons_succ]
        refine' flow_N (fun u w' => Sl w' u (bv (treeF 20 (ps.take k)))) (fun _ => lives_sl _ _) (fun ν => rfl) (fun ν w2 hC hD => ?_) ?_
        · have hs := ret_of (root_any w3 w2 w3.heap.size k ps rv vs (HT.out.later hC) (by rw [HN.out]; omega) (by omega))
          clear hC hD; go_simp; exact Below.refl _ _
        simp only [Act.put, List.setIfInBounds_toArray, List.set_cons_zero, List.set_cons_succ]
        refine' flow_D (e := .string (strOfNums ((treeF 20 (ps.take k)).map V8))) (fun ν => rfl) (fun ν w2 hC hD => ?_) ?_
        · have hs := conv_str w2 _ _ (hD.2 (by kernel_rfl))
          clear hC hD
          go_simp; exact ⟨Below.refl _ _, rfl⟩
        simp only [Act.put, List.setIfInBounds_toArray, List.set_cons_zero, List.set_cons_succ]
        refine' flow_D (fun ν => rfl) (fun ν w2 hC hD => ?_) ?_; rotate_left
        · clear hC hD; go_simp; exact ⟨Below.refl _ _, rfl⟩
        simp only [Act.put, List.setIfInBounds_toArray, List.set_cons_zero, List.set_cons_succ]
        refine' flow_D (fun ν => rfl) (fun ν w2 hC hD => ?_) ?_; rotate_left
        · clear hC hD; go_simp; exact ⟨Below.refl _ _, rfl⟩
        simp only [Act.put, List.setIfInBounds_toArray, List.set_cons_zero, List.set_cons_succ]
        refine' flow_D (e := .slice (some ⟨b, o, none⟩) k cap) (fun ν => rfl) (fun ν w2 hC hD => ?_) ?_
        · clear hC hD; go_simp; exact ⟨Below.refl _ _, rfl⟩
        simp only [Act.put, List.setIfInBounds_toArray, List.set_cons_zero, List.set_cons_succ]
        refine' flow_N (fun u w' => Sl w' u (bv (treeF 20 (ps.take k)))) (fun _ => lives_sl _ _) (fun ν => rfl) (fun ν w2 hC hD => ?_) ?_
        · have hs := ret_of (tree_any 20 w2 _ (ps.take k) (by rw [List.length_take]; omega) (HF.out.small.take k) ((HVr.out.below hC).take k (by omega)))
          clear hC hD; go_simp; exact Below.refl _ _
        simp only [Act.put, List.setIfInBounds_toArray, List.set_cons_zero, List.set_cons_succ]
        refine' flow_D (e := .string (strOfNums ((treeF 20 (ps.take k)).map V8))) (fun ν => rfl) (fun ν w2 hC hD => ?_) ?_
        · have hs := conv_str w2 _ _ (hD.2 (by kernel_rfl))
          clear hC hD
          go_simp; exact ⟨Below.refl _ _, rfl⟩
        simp only [Act.put, List.setIfInBounds_toArray, List.set_cons_zero, List.set_cons_succ]
        refine' flow_D (fun ν => rfl) (fun ν w2 hC hD => ?_) ?_; rotate_left
        · clear hC hD; go_simp; exact ⟨Below.refl _ _, rfl⟩
        simp only [Act.put, List.setIfInBounds_toArray, List.set_cons_zero, List.set_cons_succ]
        refine' flow_D0 rfl (fun ν w2 hC hD => ?_) ?_; rotate_left
        · clear hC hD; go_simp; exact ⟨Below.refl _ _, rfl⟩
        simp only [Act.put, List.setIfInBounds_toArray, List.set_cons_zero, List.set_cons_succ]
        refine' flow_D0 rfl (fun ν w2 hC hD => ?_) ?_; rotate_left
        · clear hC hD; go_simp; exact ⟨Below.refl _ _, rfl⟩
        simp only [Act.put, List.setIfInBounds_toArray, List.set_cons_zero, List.set_cons_succ]
        refine' flow_D (fun ν => rfl) (fun ν w2 hC hD => ?_) ?_; rotate_left
        · clear hC hD; go_simp; exact ⟨Below.refl _ _, rfl⟩
        simp only [Act.put, List.setIfInBounds_toArray, List.set_cons_zero, List.set_cons_succ]
        refine' flow_N (fun u w' => Sl w' u (bv (treeF 20 (ps.take k)))) (fun _ => lives_sl _ _) (fun ν => rfl) (fun ν w2 hC hD => ?_) ?_
        · have hs := ret_of (root_any w3 w2 w3.heap.size k ps rv vs (HT.out.later hC) (by rw [HN.out]; omega) (by omega))
          clear hC hD; go_simp; exact Below.refl _ _
        simp only [Act.put, List.setIfInBounds_toArray, List.set_cons_zero, List.set_cons_succ]
        refine' flow_D (e := .string (strOfNums ((treeF 20 (ps.take k)).map V8))) (fun ν => rfl) (fun ν w2 hC hD => ?_) ?_
        · have hs := conv_str w2 _ _ (hD.2 (by kernel_rfl))
          clear hC hD
          go_simp; exact ⟨Below.refl _ _, rfl⟩
        simp only [Act.put, List.setIfInBounds_toArray, List.set_cons_zero, List.set_cons_succ]
        refine' flow_D (fun ν => rfl) (fun ν w2 hC hD => ?_) ?_; rotate_left
        · clear hC hD; go_simp; exact ⟨Below.refl _ _, rfl⟩
        simp only [Act.put, List.setIfInBounds_toArray, List.set_cons_zero, List.set_cons_succ]
        refine' flow_D (fun ν => rfl) (fun ν w2 hC hD => ?_) ?_; rotate_left
        · clear hC hD; go_simp; exact ⟨Below.refl _ _, rfl⟩
        simp only [Act.put, List.setIfInBounds_toArray, List.set_cons_zero, List.set_cons_succ]
        refine' flow_D (e := .slice (some ⟨b, o, none⟩) k cap) (fun ν => rfl) (fun ν w2 hC hD => ?_) ?_
        · clear hC hD; go_simp; exact ⟨Below.refl _ _, rfl⟩
        simp only [Act.put, List.setIfInBounds_toArray, List.set_cons_zero, List.set_cons_succ]
        refine' flow_N (fun u w' => Sl w' u (bv (treeF 20 (ps.take k)))) (fun _ => lives_sl _ _) (fun ν => rfl) (fun ν w2 hC hD => ?_) ?_
        · have hs := ret_of (tree_any 20 w2 _ (ps.take k) (by rw [List.length_take]; omega) (HF.out.small.take k) ((HVr.out.below hC).take k (by omega)))
          clear hC hD; go_simp; exact Below.refl _ _
        simp only [Act.put, List.setIfInBounds_toArray, List.set_cons_zero, List.set_cons_succ]
        refine' flow_D (e := .string (strOfNums ((treeF 20 (ps.take k)).map V8))) (fun ν => rfl) (fun ν w2 hC hD => ?_) ?_
        · have hs := conv_str w2 _ _ (hD.2 (by kernel_rfl))
          clear hC hD
          go_simp; exact ⟨Below.refl _ _, rfl⟩
        simp only [Act.put, List.setIfInBounds_toArray, List.set_cons_zero, List.set_cons_succ]
        refine' flow_D (fun ν => rfl) (fun ν w2 hC hD => ?_) ?_; rotate_left
        · clear hC hD; go_simp; exact ⟨Below.refl _ _, rfl⟩
        simp only [Act.put, List.setIfInBounds_toArray, List.set_cons_zero, List.set_cons_succ]
        refine' flow_D0 rfl (fun ν w2 hC hD => ?_) ?_; rotate_left
        · clear hC hD; go_simp; exact ⟨Below.refl _ _, rfl⟩
        simp only [Act.put, List.setIfInBounds_toArray, List.set_cons_zero, List.set_cons_succ]
        refine flow_nil ?_
        intro ν w4 hC hG
        have HT4 := Lib.hid (HT.out.later hC)
        have hB4 := below_then HBr.out HBr.out.size hC
        obtain ⟨b', o', u, e, hcu, hsu⟩ := HC.out k hlt
        cases e
        have hl100 := HF.out.2 k (by rw [HN.out]; exact hlt)
        replace hcu := (hB4.cell (World.block_lt_of_cell? _ _ hcu)).trans hcu
        replace hsu := hsu.below hB4
        have HS := Lib.hid (hsu.below (OB.new0 w4).2)
        obtain ⟨ua, uc, rfl, _⟩ := hsu.openB
        have Hk1 : Hid (k + 1 ≤ n) := hlt
        have HB4 := Lib.hid hB4
        have HR : Hid (rootsN ps (k + 1) = carryF 8 k (rootsN ps k) (leafH (ps.getD k []))) := rfl
        obtain ⟨bs, hbs⟩ : ∃ bs, ps.getD k [] = bs := ⟨_, rfl⟩
        rw [hbs] at hl100 HS HR hsu hcu
        obtain ⟨m, hm'⟩ : ∃ m, bs.length = m := ⟨_, rfl⟩
        have HM := Lib.hid hm'
        rw [hm'] at hl100 hcu HS
        have hm100 : (m : Int) ≤ 100 := by omega
        have HO0 := Lib.hid (OB.new0 w4)
        have hcu2 := ((OB.new0 w4).2.cell (World.block_lt_of_cell? _ _ hcu)).trans hcu
        clear hcu
        have Hpc := Lib.hid (rootsN_len ps k (by omega))
        clear hC hG hsu hB4 hlt hm'
        go_wp2_with (first
          | (go_at_call 35; refine (tadd_nil w6 _).mono ?_; rintro e w7 ⟨rfl, rfl⟩)
          | (go_at_call 35; refine (tadd_any w3 w5 w3.heap.size k _ rv vs (HT4.out.later hO5.2) (by omega) Hpc.out (rootsN_32 ps k) _ bs hO5.sl (by rw [HM.out]; omega)).mono ?_; rintro e w6 ⟨rfl, rv6, vs6, hA6⟩)
          | (at_builtin; refine wpL_cat w4 _ rfl _ _ rfl _ _ rfl HO0.out _ bs rfl HS.out m (by rw [HM.out]; simp) (by omega) ?_; intro A5 c5 w5 hO5; rw [List.nil_append] at hO5))
        have hO6 := hA6.out.kr _ _ _ _ hO5.1
        rw [HM.out] at hO6
        have hav : Hid (∀ X, A5 = some ⟨X, 0, none⟩ → Av vs6 X) := by
          intro X e
          subst e
          exact hA6.out.av X (hO5.block_lt X rfl) (HT4.out.av_new (own_base' hO5.1 X rfl))
        have HT6 := Lib.hid hA6.out.ti
        rw [← HR.out] at HT6
        have hsz34 : w3.heap.size ≤ w4.heap.size := HT4.out.below.size
        have hHd : Hid (0 < m → ∃ X, A5 = some ⟨X, 0, none⟩) := by
          intro h0
          rcases hO6.2 with ⟨h1, h2⟩ | ⟨g, c, cur, h1, _⟩
          · omega
          · cases h1; exact ⟨g, rfl⟩
        clear hA6 hO5 HR
        go_loopw [64] (fun j wq => ∃ (q : Nat) (zs : List UInt8), q ≤ m ∧ j = .int .i64 q ∧ wq.ownsRow w4.heap.size 5 1 (.slice A5 m c5) m (bv zs) ∧ Hid (TI w3 wq w3.heap.size (k + 1) (rootsN ps (k + 1)) rv6 vs6)) (fun j _ => (m - intOf j).toNat)
        case atStart => exact ⟨0, bs, by omega, rfl, hO6, HT6.out⟩
        case round =>
          obtain ⟨q, zs, hq, rfl, hOq, HTq⟩ := hrel
          by_cases hql : q < m
          · have hql' : (q : Int) < m := by omega
            obtain ⟨X, rfl⟩ := hHd.out (by omega)
            obtain ⟨cz, fz, hset⟩ := bv_at hOq q hql
            have HSet := Lib.hid (hset (zs.getD q 0 ^^^ 255))
            have HTs := Lib.hid (HTq.out.setOwn hOq hsz34 (hav.out X rfl) q (.int .u8 (V8 (zs.getD q 0 ^^^ 255))))
            have Hq1 : Hid (q + 1 ≤ m) := hql
            generalize zs.getD q 0 = y at *
            clear hset hOq hql hq
            go_wp2
            go_roundw
            case rel => exact ⟨q + 1, _, Hq1.out, by go_num, HSet.out, HTs.out⟩
            case measure => simp [intOf]; omega
          · obtain rfl : q = m := by omega
            clear hql hq hOq
            have hroot := root_any w3 wr w3.heap.size (k + 1) ps rv6 vs6 HTq.out (by rw [HN.out]; exact Hk1.out) (by have := Hk1.out; omega)
            have hTRb : (((treeF 20 (ps.take (k + 1))).length : Nat) : Int) ≤ 32 := by rw [treeF_length]; omega
            generalize treeF 20 (ps.take (k + 1)) = TR at *
            go_wp2_with (go_at_call 34; refine hroot.mono ?_; rintro e w8 ⟨r8, rfl, hO8⟩; clear hroot; obtain ⟨A8, c8, rfl⟩ := hO8.shape)
            go_loopw [78] (fun j wq => ∃ (p : Nat) (zs : List UInt8), p ≤ TR.length ∧ j = .int .i64 p ∧ zs.length = TR.length ∧ OB wr wq (.slice A8 TR.length c8) zs) (fun j _ => (TR.length - intOf j).toNat)
            case atStart => exact ⟨0, _, by omega, rfl, rfl, hO8⟩
            case round =>
              obtain ⟨p, zs, hp, rfl, hzl, hOp⟩ := hrel
              by_cases hpl : p < TR.length
              · have hpl' : (p : Int) < TR.length := by omega
                have hA8 : ∃ X, A8 = some ⟨X, 0, none⟩ := by
                  rcases hOp.1.2 with ⟨h1, h2⟩ | ⟨g, c, cur, h1, _⟩
                  · omega
                  · injection h1 with e1; exact ⟨g, e1⟩
                obtain ⟨X, rfl⟩ := hA8
                have cz := hOp.cellB p (by omega)
                have fz := hOp.frozenB p
                have HSet := Lib.hid (hOp.set p (zs.getD p 0 ^^^ 255))
                have Hp1 : Hid (p + 1 ≤ TR.length) := hpl
                generalize zs.getD p 0 = y at *
                clear hOp hpl hp
                go_wp2
                go_roundw
                case rel => exact ⟨p + 1, _, Hp1.out, by go_num, by rw [List.length_set]; exact hzl, HSet.out⟩
                case measure => simp [intOf]; omega
              · have hpe : p = TR.length := by omega
                have hpe' : ¬ ((p : Int) < TR.length) := by omega
                have HT9 := Lib.hid (HTq.out.later hOp.2)
                clear hpl hp hOp hzl hpe
                go_wp2
                go_roundw
                case rel => exact ⟨k + 1, _, _, Hk1.out, by go_num, HT9.out⟩
                case measure => have := Hk1.out; simp [intOf]; omega
      · obtain rfl : k = n := by omega
        have HTk := Lib.hid (show ps.take k = ps from List.take_of_length_le (by rw [HN.out]; omega))
        have HVr := Lib.hid (HV.out.below hBr)
        clear hlt hk hBr
        go_wp2
        refine wp_flowC 17 (by kernel_rfl) (by kernel_rfl) (fun w' => Below wr.heap.size wr w') (lives_below _) (Below.refl _ _) ?_
        simp only [List.take_succ_cons, List.take_zero, List.drop_succ_cons, List.drop_zero]
        refine' flow_D0 rfl (fun ν w2 hC hD => ?_) ?_; rotate_left
        · clear hC hD; go_simp; exact ⟨Below.refl _ _, rfl⟩
        simp only [Act.put, List.setIfInBounds_toArray, List.set_cons_zero, List.set_cons_succ]
        refine' flow_N0 (fun u w' => Sl w' u (bv (treeF 20 ps))) (fun _ => lives_sl _ _) rfl (fun ν w2 hC hD => ?_) ?_
        · have hs := ret_of (show Calls Try.prog 34 #[.pointer (some ⟨w3.heap.size, 0, none⟩)] w2 (fun e w' => ∃ r, e = .returned r ∧ OB w2 w' r (treeF 20 ps)) from by have := root_any w3 w2 w3.heap.size k ps rv vs (HT.out.later hC) (by rw [HN.out]; omega) (by omega); rw [HTk.out] at this; exact this)
          clear hC hD; go_simp; exact Below.refl _ _
        simp only [Act.put, List.setIfInBounds_toArray, List.set_cons_zero, List.set_cons_succ]
        refine' flow_D0 (e := .string (strOfNums ((treeF 20 ps).map V8))) rfl (fun ν w2 hC hD => ?_) ?_
        · have hs := conv_str w2 _ _ (hD.2 (by kernel_rfl))
          clear hC hD
          go_simp; exact ⟨Below.refl _ _, rfl⟩
        simp only [Act.put, List.setIfInBounds_toArray, List.set_cons_zero, List.set_cons_succ]
        refine' flow_D0 rfl (fun ν w2 hC hD => ?_) ?_; rotate_left
        · clear hC hD; go_simp; exact ⟨Below.refl _ _, rfl⟩
        simp only [Act.put, List.setIfInBounds_toArray, List.set_cons_zero, List.set_cons_succ]
        refine' flow_N0 (fun u w' => Sl w' u (bv (treeF 20 ps))) (fun _ => lives_sl _ _) rfl (fun ν w2 hC hD => ?_) ?_
        · have hs := ret_of (tree_any 20 w2 _ ps (by rw [HN.out]; omega) HF.out.small (HVr.out.below hC))
          clear hC hD; go_simp; exact Below.refl _ _
        simp only [Act.put, List.setIfInBounds_toArray, List.set_cons_zero, List.set_cons_succ]
        refine' flow_D0 (e := .string (strOfNums ((treeF 20 ps).map V8))) rfl (fun ν w2 hC hD => ?_) ?_
        · have hs := conv_str w2 _ _ (hD.2 (by kernel_rfl))
          clear hC hD
          go_simp; exact ⟨Below.refl _ _, rfl⟩
        simp only [Act.put, List.setIfInBounds_toArray, List.set_cons_zero, List.set_cons_succ]
        refine' flow_D0 rfl (fun ν w2 hC hD => ?_) ?_; rotate_left
        · clear hC hD; go_simp; exact ⟨Below.refl _ _, rfl⟩
        simp only [Act.put, List.setIfInBounds_toArray, List.set_cons_zero, List.set_cons_succ]
        refine' flow_D0 rfl (fun ν w2 hC hD => ?_) ?_; rotate_left
        · clear hC hD; go_simp; exact ⟨Below.refl _ _, rfl⟩
        simp only [Act.put, List.setIfInBounds_toArray, List.set_cons_zero, List.set_cons_succ]
        refine' flow_D (fun ν => rfl) (fun ν w2 hC hD => ?_) ?_; rotate_left
        · clear hC hD; go_simp; exact ⟨Below.refl _ _, rfl⟩
        simp only [Act.put, List.setIfInBounds_toArray, List.set_cons_zero, List.set_cons_succ]
        refine' flow_D (e := .int .i64 0) (fun ν => rfl) (fun ν w2 hC hD => ?_) ?_
        · have hs := (tlen_nil w2).mono (R' := RetIn w2 (Yv (.int .i64 0))) (fun e w' ⟨he, hw⟩ => ⟨_, he, by rw [hw]; exact Below.refl _ _, rfl⟩)
          clear hC hD; go_simp; exact Below.refl _ _
        simp only [Act.put, List.setIfInBounds_toArray, List.set_cons_zero, List.set_cons_succ]
        refine' flow_D (fun ν => rfl) (fun ν w2 hC hD => ?_) ?_; rotate_left
        · clear hC hD; go_simp; exact ⟨Below.refl _ _, rfl⟩
        simp only [Act.put, List.setIfInBounds_toArray, List.set_cons_zero, List.set_cons_succ]
        refine' flow_D (e := .slice none 0 0) (fun ν => rfl) (fun ν w2 hC hD => ?_) ?_
        · have hs := (troot_nil w2).mono (R' := RetIn w2 (Yv (.slice none 0 0))) (fun e w' ⟨he, hw⟩ => ⟨_, he, by rw [hw]; exact Below.refl _ _, rfl⟩)
          clear hC hD; go_simp; exact Below.refl _ _
        simp only [Act.put, List.setIfInBounds_toArray, List.set_cons_zero, List.set_cons_succ]
        refine' flow_D (fun ν => rfl) (fun ν w2 hC hD => ?_) ?_; rotate_left
        · clear hC hD; go_simp; exact ⟨Below.refl _ _, rfl⟩
        simp only [Act.put, List.setIfInBounds_toArray, List.set_cons_zero, List.set_cons_succ]
        refine' flow_D (fun ν => rfl) (fun ν w2 hC hD => ?_) ?_; rotate_left
        · clear hC hD; go_simp; exact ⟨Below.refl _ _, rfl⟩
        simp only [Act.put, List.setIfInBounds_toArray, List.set_cons_zero, List.set_cons_succ]
        refine' flow_D (fun ν => rfl) (fun ν w2 hC hD => ?_) ?_; rotate_left
        · clear hC hD; go_simp; exact ⟨Below.refl _ _, rfl⟩
        simp only [Act.put, List.setIfInBounds_toArray, List.set_cons_zero, List.set_cons_succ]
        refine' flow_D0 rfl (fun ν w2 hC hD => ?_) ?_; rotate_left
        · clear hC hD; go_simp; exact ⟨Below.refl _ _, rfl⟩
        simp only [Act.put, List.setIfInBounds_toArray, List.set_cons_zero, List.set_cons_succ]
        refine' flow_D0 rfl (fun ν w2 hC hD => ?_) ?_; rotate_left
        · clear hC hD; go_simp; exact ⟨Below.refl _ _, rfl⟩
        simp only [Act.put, List.setIfInBounds_toArray, List.set_cons_zero, List.set_cons_succ]
        refine flow_nil ?_
        intro ν w4 hC hG
        have hB4 := Lib.hid (below_then HBr.out HBr.out.size hC)
        clear hC hG
        go_wp2
        go_ret
        exact ⟨rfl, hB4.out⟩
  · have HF := Lib.hid hf
    clear hf
    go_enter Try.func8, Try.ntmps8
    go_wp2_with (first
      | (go_at_call 22; refine (lives32 _).mono ?_; rintro e w1 ⟨rfl, hB⟩; replace HB := Lib.hid (below_then HB.out HB.out.size hB); clear hB)
      | (go_at_call 23; refine (few32_no _ _ ps (HV.out.below HB.out) HF.out).mono ?_; rintro e w2 ⟨rfl, rfl⟩))
    go_ret
    exact ⟨rfl, HB.out⟩
end Go.Proofs.Ytllnocffmlagjaa
