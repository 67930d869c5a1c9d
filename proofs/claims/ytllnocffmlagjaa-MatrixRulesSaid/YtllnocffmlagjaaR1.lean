/- Contracts of ref07.above and ref07.Fraction. Conditions: numbers of 64 bits; the power 2 or 3. -/
import Derived.Laws.OwnMore
import Derived.Test.YtllnocffmlagjaaR0
set_option linter.unusedVariables false
namespace Go.Proofs.Ytllnocffmlagjaa
open Go.RowKit

/-! ### make([]T, n) -/
theorem made_list (z : Value) (hz : z.cells = #[z]) (n : Nat) : (madeCells z.cells (n * 1)).toList = List.replicate n z := by
  apply List.ext_getElem
  · simp [madeCells]
  · intro i h1 h2
    simp [madeCells, hz, Nat.mod_one]
section
variable {P : Program} {ops : Array Oper} {rest : List Oper} {o : Oper} {a : Act} {Q : Exit → Act → World → Prop}
theorem wpL_make (W : World) (hgd : o.guard = none) (x y : Operand) (t e : TypeId) (z : Value) (bytes : Nat) (ho : o.op = .makeSlice t x y) (ht : P.underlying t = some (.slice e))
    (hinfo : (P.info? e).map (fun i => (i.zero, i.size, i.bytes)) = some (some z, 1, bytes)) (hz : z.cells = #[z]) (N : Int) (n : Nat) (hN : N = n)
    (hx : a.eval x = .int .i64 N) (hy : a.eval y = .int .i64 N) (hb : bytes * n ≤ 16777216) (hn : n ≤ 16777216)
    (h : ∀ w', w'.ownsRow W.heap.size e 1 (.slice (some ⟨W.heap.size, 0, none⟩) n n) n (List.replicate n z) → Below W.heap.size W w' → wpList P ops Q rest (a.put o.dst (.slice (some ⟨W.heap.size, 0, none⟩) n n)) w') :
    wpList P ops Q (o :: rest) a W := by
  subst hN
  obtain ⟨i, hi, hz0, hz1, hz2⟩ := info_parts hinfo
  obtain ⟨w', hr, h1, h2⟩ := run_makeSlice_full (P := P) W W.heap.size t e i z 1 ht hi hz0 hz1 .i64 .i64 n (by omega) (by rw [hz2]; omega) (by simp [maxLen]; omega) (Nat.le_refl _)
  rw [made_list z hz] at h1
  refine wpList_plain hgd fun K hK => ?_
  unfold Oper.wp execOp
  simp only [ho, Sem.run_bind, Sem.run_pure, Result.andThen_ok, hx, hy, hr]
  exact hK _ _ (h w' h1 (below_grown h2 (by simp) (Nat.le_refl _)))
end

theorem own_zeros {w1 w2 : World} {n : Nat} {v : Value} (h : w2.ownsRow w1.heap.size 71 1 v n (List.replicate n (.int .u64 0))) (hb : Below w1.heap.size w1 w2) : OD w1 w2 v (List.replicate n 0) := by
  refine ⟨?_, hb⟩
  have e : dv (List.replicate n 0) = List.replicate n (.int .u64 0) := by simp [dv]
  rw [e, List.length_replicate]; exact h
def cmpL (a b : List Nat) : Nat → Bool
  | 0 => false
  | i + 1 => if a.getD i 0 ≠ b.getD i 0 then decide (b.getD i 0 < a.getD i 0) else cmpL a b i
def wantL (p n : Nat) : List Nat := List.replicate (2 * n) 0 ++ [p]
def aboveL (x p n : Nat) : Bool := cmpL (powL x n) (wantL p n) 16

set_option maxRecDepth 100000 in
set_option maxHeartbeats 1000000 in
theorem above_any (w : World) (x p n : Nat) (hx : x < 18446744073709551616) (hn : n = 2 ∨ n = 3) :
    Calls Try.prog 91 #[.int .u64 x, .int .u64 p, .int .i64 n] w fun e w' => e = .returned (.bool (aboveL x p n)) ∧ Below w.heap.size w w' := by
  have hpow := power_any w x n hx (by omega)
  have hal := powL_len x n
  have hb : Hid (wantL p n = List.replicate (2 * n) 0 ++ [p]) := rfl
  have hbl : (wantL p n).length = 2 * n + 1 := by simp [wantL]
  unfold aboveL
  generalize powL x n = a at *
  generalize wantL p n = b at *
  have n2 : 2 ≤ n := by omega
  have n3 : n ≤ 3 := by omega
  obtain ⟨R, hR⟩ : ∃ R, R = cmpL a b 16 := ⟨_, rfl⟩
  rw [← hR]
  have HR := Lib.hid hR
  clear hR
  clear hn hx
  go_enter Try.func91, Try.ntmps91
  go_wp2_with (first
    | (go_at_call 102; refine hpow.mono ?_; rintro e w1 ⟨r, rfl, hO1⟩; obtain ⟨A1, c1, rfl⟩ := hO1.shape)
    | (with_reducible refine wpL_make _ rfl _ _ 81 71 _ 8 rfl Try.underlying81 inf71 rfl _ (2 * n) (by omega) rfl rfl (by omega) (by omega) ?_; intro w2 hw2 hb2)
    | (at_builtin; refine wpL_pushD _ _ rfl _ _ rfl _ (List.replicate (2 * n) 0) rfl (own_zeros hw2 hb2) _ p rfl rfl (2 * n + 1) (by simp) (by omega) ?_; intro A3 cap3 w3 hO3))
  rw [← hb.out] at hO3
  have hO13 := hO1.later hO3.2
  have HA := Lib.hid (fun i h => hO13.cell i h)
  have HB := Lib.hid (fun i h => hO3.cell i h)
  have HW := Lib.hid (below_then hO1.2 hO1.2.size hO3.2)
  rw [hbl] at HB
  clear hpow hO13 hO1 hw2 hO3 hb2
  have hla : a.length ≤ 13 := by omega
  obtain ⟨la, hla'⟩ : ∃ la, a.length = la := ⟨_, rfl⟩
  rw [hla'] at HA hla ⊢
  have Hla := Lib.hid hla'
  have Hlb := Lib.hid hbl
  clear hal hla' hbl
  go_loop [9, 10, 11] (fun i _ _ => ∃ j : Nat, j ≤ 16 ∧ i = .int .i64 ((j : Int) - 1) ∧ Hid (R = cmpL a b j)) (fun i _ _ => (intOf i + 1).toNat)
  case atStart => exact ⟨16, by omega, rfl, HR⟩
  case round =>
    obtain ⟨j, hj, rfl, hcj⟩ := hrel
    cases j with
    | zero =>
      have h0 : ((0 : Nat) : Int) - 1 = -1 := rfl
      rw [h0]
      go_wp2
      go_ret
      exact ⟨by rw [hcj.out]; rfl, HW.out⟩
    | succ j =>
      have e : ((j + 1 : Nat) : Int) - 1 = j := by omega
      rw [e]
      have hj15 : (j : Int) ≤ 15 := by omega
      have hcj2 := hcj
      rw [Hid, cmpL] at hcj2
      have HJ := Lib.hid hcj2
      have Hj16 : Hid (j ≤ 16) := by rw [Hid]; omega
      clear hcj2 hcj hj
      by_cases h1 : j < la
      · have h1' : (j : Int) < la := by omega
        obtain ⟨g1, o1, rfl, ca⟩ := HA.out j (by have := Hla.out; omega)
        generalize a.getD j 0 = D at *
        by_cases h2 : j < 2 * n + 1
        · have h2' : (j : Int) < 2 * n + 1 := by omega
          obtain ⟨g2, o2, rfl, cb⟩ := HB.out j (by have := Hlb.out; omega)
          generalize b.getD j 0 = E at *
          by_cases hde : D = E
          · rw [if_neg (by simp [hde])] at HJ
            have hde' : (D : Int) = E := by omega
            clear hde
            go_wp2
            go_round
            case rel => exact ⟨j, Hj16.out, by go_num, HJ⟩
            case measure => simp [intOf] <;> omega
          · rw [if_pos hde] at HJ
            have hde' : ¬ ((D : Int) = E) := by omega
            have hlt2 : decide ((E : Int) < D) = decide (E < D) := by simp
            clear hde
            go_wp2
            go_ret
            exact ⟨by rw [HJ.out] <;> simp, HW.out⟩
        · have hbz : b.getD j 0 = 0 := by simp [List.getD_eq_getElem?_getD, show b.length ≤ j by rw [Hlb.out]; omega]
          rw [hbz] at HJ
          have h2' : ¬ ((j : Int) < 2 * n + 1) := by omega
          by_cases hde : D = 0
          · rw [if_neg (by simp [hde])] at HJ
            have hde' : (D : Int) = 0 := by omega
            clear hde
            go_wp2
            go_round
            case rel => exact ⟨j, Hj16.out, by go_num, HJ⟩
            case measure => simp [intOf] <;> omega
          · rw [if_pos hde] at HJ
            have hde' : ¬ ((D : Int) = 0) := by omega
            have hlt2 : decide ((0 : Int) < D) = decide (0 < D) := by simp
            clear hde
            go_wp2
            go_ret
            exact ⟨by rw [HJ.out] <;> simp, HW.out⟩
      · have haz : a.getD j 0 = 0 := by simp [List.getD_eq_getElem?_getD, show a.length ≤ j by rw [Hla.out]; omega]
        rw [haz] at HJ
        have h1' : ¬ ((j : Int) < la) := by omega
        by_cases h2 : j < 2 * n + 1
        · have h2' : (j : Int) < 2 * n + 1 := by omega
          obtain ⟨g2, o2, rfl, cb⟩ := HB.out j (by have := Hlb.out; omega)
          generalize b.getD j 0 = E at *
          by_cases hde : 0 = E
          · rw [if_neg (by simp [hde])] at HJ
            have hde' : (0 : Int) = E := by omega
            clear hde
            go_wp2
            go_round
            case rel => exact ⟨j, Hj16.out, by go_num, HJ⟩
            case measure => simp [intOf] <;> omega
          · rw [if_pos hde] at HJ
            have hde' : ¬ ((0 : Int) = E) := by omega
            have hlt2 : decide ((E : Int) < 0) = decide (E < 0) := by simp
            clear hde
            go_wp2
            go_ret
            exact ⟨by rw [HJ.out] <;> simp, HW.out⟩
        · have hbz : b.getD j 0 = 0 := by simp [List.getD_eq_getElem?_getD, show b.length ≤ j by rw [Hlb.out]; omega]
          rw [hbz] at HJ
          have h2' : ¬ ((j : Int) < 2 * n + 1) := by omega
          rw [if_neg (by simp)] at HJ
          go_wp2
          go_round
          case rel => exact ⟨j, Hj16.out, by go_num, HJ⟩
          case measure => simp [intOf] <;> omega
end Go.Proofs.Ytllnocffmlagjaa
