/- The law MatrixRules, walked. Conditions: none. -/
import Derived.Test.YtllnocffmlagjaaV1
import Derived.Test.YtllnocffmlagjaaL9
set_option linter.unusedVariables false
set_option linter.unusedSimpArgs false
namespace Go.Proofs.Ytllnocffmlagjaa
open Go.RowKit

theorem num_mod (I M : Int) (m : Nat) (hM : M = m) (h0 : 1 ≤ m) (hm : m ≤ 100) : ∃ n : Nat, 1 ≤ n ∧ n ≤ m ∧ wrap64 (1 + wrap64 ((IntKind.u64.wrap I).tmod M)) = n := by
  subst hM
  have hp : 0 ≤ IntKind.u64.wrap I := by rw [IntKind.wrap_u64]; exact Int.emod_nonneg _ (by decide)
  rw [Int.tmod_eq_emod_of_nonneg hp]
  have h1 := Int.emod_nonneg (IntKind.u64.wrap I) (show (m : Int) ≠ 0 by omega)
  have h2 := Int.emod_lt_of_pos (IntKind.u64.wrap I) (show (0 : Int) < m by omega)
  generalize IntKind.u64.wrap I % (m : Int) = t at *
  refine ⟨(1 + t).toNat, by omega, by omega, ?_⟩
  unfold wrap64
  omega
theorem squareL_length (b : List UInt8) (n c : Nat) : (squareL b n c).length = n := by simp [squareL]
theorem squareL_at (b : List UInt8) (n c i : Nat) (h : i < n) : (squareL b n c).getD i [] = sqRow b c i := by simp [squareL, List.getD_eq_getElem?_getD, h]
theorem squareL_rect (b : List UInt8) (n c : Nat) (h1 : 1 ≤ n) (h2 : n ≤ 100) (h3 : 1 ≤ c) (h4 : c ≤ 100) : Rect (squareL b n c) n c :=
  ⟨squareL_length _ _ _, fun i hi => by rw [squareL_at _ _ _ _ hi, sqRow_length], h1, h3, h2, h4⟩
/-- square, then New -/
theorem mnew_sq (w : World) (lv : Value) (vs : List Value) (w0 : World) (b : List UInt8) (n c : Nat) (h : OR w0 w lv vs (squareL b n c)) (h1 : 1 ≤ n) (h2 : n ≤ 64) (h3 : 1 ≤ c) (h4 : c ≤ 64) :
    Calls Try.prog 17 #[lv] w fun e w' => ∃ P, e = .returned (.tuple #[.pointer (some ⟨P, 0, none⟩), .int .i64 0]) ∧ MX w' P (squareL b n c) n c ∧ Below w.heap.size w w' := by
  have hr := squareL_rect b n c h1 (by omega) h3 (by omega)
  exact (mnew_any w lv (squareL b n c) n c h.parts hr.len hr.col h1 h2 h3 h4).mono fun e w' ⟨P, lv', vs', he, hM⟩ => ⟨P, he, hM.mx hr, hM.or.below⟩
theorem square1_any (w : World) (v : Value) (bs : List UInt8) (c : Nat) (hv : Sl w v (bv bs)) (h1c : 1 ≤ c) (hc : c ≤ 100) :
    Calls Try.prog 18 #[v, .int .i64 1, .int .i64 c] w fun e w' => ∃ G u cap, e = .returned (.slice (some ⟨G, 0, none⟩) 1 cap) ∧ w'.cell? ⟨G, 0, none⟩ = some u ∧ Sl w' u (bv (sqRow bs c 0)) ∧ Below w.heap.size w w' := by
  have h := square_any w v bs 1 c hv (by omega) (by omega) h1c hc
  rw [show ((1 : Nat) : Int) = 1 from rfl] at h
  refine h.mono fun e w' ⟨lv, vs, he, hO⟩ => ?_
  have hl := squareL_length bs 1 c
  obtain ⟨A, cap, rfl⟩ := hO.shape
  obtain ⟨g, rfl, cz, _, _, _⟩ := hO.at 0 (by omega)
  have hs := hO.sl 0 (by omega)
  rw [squareL_at _ _ _ _ (by omega)] at hs
  rw [hl] at he
  exact ⟨g, _, cap, he, cz, hs, hO.below⟩
/-- What the law's walk keeps. -/
structure K1 (w0 w : World) (F : Nat) (va vb vv : Value) (xa xb xv : List UInt8) : Prop where
  b : Below w0.heap.size w0 w
  f : FD w F
  a1 : Sl w va (bv xa)
  a2 : Sl w vb (bv xb)
  a3 : Sl w vv (bv xv)
theorem K1.below {w0 w w' : World} {F : Nat} {va vb vv : Value} {xa xb xv : List UInt8} (h : K1 w0 w F va vb vv xa xb xv) (hb : Below w.heap.size w w') : K1 w0 w' F va vb vv xa xb xv :=
  ⟨below_then h.b h.b.size hb, h.f.later hb, h.a1.below hb, h.a2.below hb, h.a3.below hb⟩

set_option maxRecDepth 100000 in
set_option maxHeartbeats 2000000 in
theorem matrixRules_any (w : World) (I J K : Int) (va vb vv : Value) (xa xb xv : List UInt8) 
    (ha : Sl w va (bv xa)) (hb : Sl w vb (bv xb)) (hv : Sl w vv (bv xv)) :
    Calls Try.prog 5 #[.int .i64 I, .int .i64 J, .int .i64 K, va, vb, vv] w fun e w' => e = .returned (.bool true) ∧ Below w.heap.size w w' := by
  obtain ⟨n, n1, n8, hn⟩ := num_mod I 8 8 rfl (by decide) (by decide)
  obtain ⟨k, k1, k8, hk⟩ := num_mod J 8 8 rfl (by decide) (by decide)
  obtain ⟨c, c1, c8, hc⟩ := num_mod K 8 8 rfl (by decide) (by decide)
  have hsl := Lib.hid (And.intro ha (And.intro hb hv))
  have HrA := squareL_rect xa n k n1 (by omega) k1 (by omega)
  have HrB := squareL_rect xb k c k1 (by omega) c1 (by omega)
  have HrP := mulL_rect HrA HrB
  clear ha hb hv
  go_enter Try.func5, Try.ntmps5
  go_wp2_with (first
    | (go_at_call 21; refine (mrank_nil w14 PA).mono ?_; rintro e w15 ⟨rfl, rfl⟩)
    | (go_at_call 21; refine (mrank_any w13 F PB k c _ hK.f hMB).mono ?_; rintro e w14 ⟨l3, R3, rfl, hb, hR3⟩; replace hK := hK.below hb; obtain ⟨q1, q2⟩ := law_rank _ _ n k c HrA HrB hR1 hR2 hR3; have q1' : ((l1.length : Nat) : Int) ≤ ((l2.length : Nat) : Int) := Int.ofNat_le.2 q1; have q2' : ((l1.length : Nat) : Int) ≤ ((l3.length : Nat) : Int) := Int.ofNat_le.2 q2; clear hb hR1 hR2 hR3 q1 q2; generalize l1.length = L1 at *; generalize l2.length = L2 at *; generalize l3.length = L3 at *)
    | (go_at_call 21; refine (mrank_any w12 F PA n k _ hK.f hMA).mono ?_; rintro e w13 ⟨l2, R2, rfl, hb, hR2⟩; replace hK := hK.below hb; replace hMB := hMB.below hb; clear hb)
    | (go_at_call 21; refine (mrank_any w11 F PP n c _ hK.f hMP).mono ?_; rintro e w12 ⟨l1, R1, rfl, hb, hR1⟩; replace hK := hK.below hb; replace hMA := hMA.below hb; replace hMB := hMB.below hb; clear hb)
    | (go_at_call 20; refine (mtimes_any w10 F PA n k _ ry _ hK.f hMA hOy.sl ((timesL_length _ _ _).trans HrB.len)).mono ?_; rintro e w11 ⟨rz, rfl, hOz⟩; have hsx := conv_str w11 rx _ (hOx.below hOz.2); have hsz := conv_str w11 rz _ hOz.sl; rw [← law_times _ _ n k c _ HrA HrB (sqRow_length _ _ _)] at hsz; replace hK := hK.below hOz.2; replace hMA := hMA.below hOz.2; replace hMB := hMB.below hOz.2; replace hMP := hMP.below hOz.2; clear hOx hOy hOz)
    | (go_at_call 20; refine (mtimes_any w9 F PB k c _ u8 _ hK.f hMB su8 (sqRow_length _ _ _)).mono ?_; rintro e w10 ⟨ry, rfl, hOy⟩; replace hOx := hOx.below hOy.2; replace hK := hK.below hOy.2; replace hMA := hMA.below hOy.2; replace hMB := hMB.below hOy.2; replace hMP := hMP.below hOy.2)
    | (go_at_call 20; refine (mtimes_any w8 F PP n c _ u8 _ hK.f hMP su8 (sqRow_length _ _ _)).mono ?_; rintro e w9 ⟨rx, rfl, hO⟩; have hOx := hO.sl; replace su8 := su8.below hO.2; replace hK := hK.below hO.2; replace hMA := hMA.below hO.2; replace hMB := hMB.below hO.2; replace hMP := hMP.below hO.2; clear hO)
    | (go_at_call 18; refine (square1_any w7 vv xv c hK.a3 c1 (by omega)).mono ?_; rintro e w8 ⟨G8, u8, cap8, rfl, cu8, su8, hb⟩; replace hK := hK.below hb; replace hMA := hMA.below hb; replace hMB := hMB.below hb; replace hMP := hMP.below hb; clear hb)
    | (go_at_call 19; refine (mmul_any w6 F PA PB n k c _ _ hK.f hMA hMB).mono ?_; rintro e w7 ⟨PP, lvp, vsp, rfl, hO7⟩; have hMP := hO7.mx HrP; replace hK := hK.below hO7.or.below; replace hMA := hMA.below hO7.or.below; replace hMB := hMB.below hO7.or.below; clear hO7)
    | (go_at_call 17; refine (mnew_sq w5 lvb _ _ xb k c hO5 k1 (by omega) c1 (by omega)).mono ?_; rintro e w6 ⟨PB, rfl, hMB, hb⟩; replace hMA := hMA.below hb; replace hK := hK.below hb; clear hb hO5)
    | (go_at_call 18; refine (square_any w4 vb xb k c hK.a2 k1 (by omega) c1 (by omega)).mono ?_; clear hO3; rintro e w5 ⟨lvb, vs5, rfl, hO5⟩; replace hMA := hMA.below hO5.below; replace hK := hK.below hO5.below)
    | (go_at_call 17; refine (mnew_sq w3 lva _ _ xa n k hO3 n1 (by omega) k1 (by omega)).mono ?_; rintro e w4 ⟨PA, rfl, hMA, hb⟩; replace hK := hK.below hb; clear hb)
    | (go_at_call 18; refine (square_any w2 va xa n k hK.a1 n1 (by omega) k1 (by omega)).mono ?_; rintro e w3 ⟨lva, vs3, rfl, hO3⟩; replace hK := hK.below hO3.below)
    | (go_at_call 16; rw [hn, hk, hc]; refine (fnew_any w1).mono ?_; rintro e w2 ⟨rfl, hF, hB2⟩; have hK : K1 w w2 w1.heap.size va vb vv xa xb xv := ⟨below_then hB1 hB1.size hB2, hF, hsl.out.1.below (below_then hB1 hB1.size hB2), hsl.out.2.1.below (below_then hB1 hB1.size hB2), hsl.out.2.2.below (below_then hB1 hB1.size hB2)⟩; generalize w1.heap.size = F at *; clear hB2 hF)
    | (go_at_call 15; refine (lives04_any w).mono ?_; rintro e w1 ⟨rfl, hB1⟩))
  all_goals (go_ret; exact ⟨rfl, hK.b⟩)
end Go.Proofs.Ytllnocffmlagjaa
