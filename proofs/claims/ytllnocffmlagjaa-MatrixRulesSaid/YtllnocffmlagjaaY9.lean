/- Contracts of matrix.Rank, field.Pow. Conditions: the field and the matrix lie. -/
import Derived.Test.YtllnocffmlagjaaY8
set_option linter.unusedVariables false
set_option linter.unusedSimpArgs false
namespace Go.Proofs.Ytllnocffmlagjaa
open Go.RowKit
attribute [local go_sem] flowAt flowUpon v8_xor

set_option maxHeartbeats 400000 in
theorem mrank_any (w : World) (F P n c : Nat) (rows : List (List UInt8)) (hF : FD w F) (h : MX w P rows n c) :
    Calls Try.prog 21 #[.pointer (some ⟨P, 0, none⟩), .pointer (some ⟨F, 0, none⟩)] w fun e w' => ∃ ls R, e = .returned (.int .i64 (ls.length : Nat)) ∧ Below w.heap.size w w' ∧ Red rows n c ls R := by
  have hr := h.rect
  have hsz := msz_any w P n c rows h
  obtain ⟨⟨lv, cP, hp⟩, _⟩ := h
  have hcl := fun w1 (hB : Below w.heap.size w w1) => cloneR_any w1 lv rows n (hp.below hB) hr.len hr.n1 hr.n100
  have hrd := fun w1 w2 (hB : Below w.heap.size w w1) G cap vs hL => reduce_any w1 w2 F G n c cap c vs rows (hF.later hB) hL hr (Nat.le_refl _)
  clear hF hp hr
  go_enter Try.func21, Try.ntmps21
  go_wp2_with (first
    | (go_at_call 65; refine (hrd w1 w2 hB1 _ _ _ hL).mono ?_; clear hrd hcl hsz; rintro e w3 ⟨v, rfl, hO⟩; obtain ⟨⟨A, capl, ls, vs3, R, X, cnt, rfl, hS, hRed⟩⟩ := hO)
    | (go_at_call 66; refine (hcl w1 hB1).mono ?_; rintro e w2 ⟨G, cap, vs, rfl, hL⟩)
    | (go_at_call 62; refine hsz.mono ?_; rintro e w1 ⟨rfl, m, hw'⟩; have hB1 : Below w.heap.size w w1 := by rw [hw']; exact below_drewN (Below.refl _ w) m
       clear hw'; replace cP := (hB1.cell (World.block_lt_of_cell? _ _ cP)).trans cP))
  go_ret
  exact ⟨ls, R, rfl, below_then hB1 hB1.size hS.lr.below, hRed⟩
theorem mrank_nil (w : World) (P : Nat) : Calls Try.prog 21 #[.pointer (some ⟨P, 0, none⟩), .pointer none] w fun e w' => e = .returned (.int .i64 0) ∧ w' = w := by
  go_enter Try.func21, Try.ntmps21
  go_wp2
  go_ret
  exact ⟨rfl, rfl⟩

/-- A power, step by step. -/
def pwr (a : UInt8) : Nat → UInt8
  | 0 => 1
  | k + 1 => gm (pwr a k) a
theorem pwr_pw (a : UInt8) (ha : a ≠ 0) (k : Nat) : pwr a k = pw (lg a * k) := by
  induction k with
  | zero => rfl
  | succ k ih => 
    unfold pwr
    rw [ih]
    conv => lhs; rhs; rw [← (pw_lg a ha).1]
    rw [gm_pw, Nat.mul_succ]
theorem pwr_zero (k : Nat) : pwr 0 (k + 1) = 0 := by unfold pwr; exact gm_zero_r _

set_option maxRecDepth 100000 in
set_option maxHeartbeats 1000000 in
theorem pow_any (w : World) (F : Nat) (hF : FD w F) (a : UInt8) (k : Nat) (hk : k < 255) :
    Calls Try.prog 81 #[.pointer (some ⟨F, 0, none⟩), .int .u8 (V8 a), .int .i64 k] w fun e w' => e = .returned (.int .u8 (V8 (pwr a k))) ∧ ∃ n, w' = w.drewN n := by
  by_cases h0 : k = 0
  · subst h0
    rw [show V8 (pwr a 0) = 1 from rfl]
    clear hF
    go_enter Try.func81, Try.ntmps81
    go_wp2
    go_ret
    exact ⟨rfl, 0, rfl⟩
  · have hk0 : ((k : Int) == 0) = false := beq_eq_false_iff_ne.2 (by omega)
    by_cases ha : a = 0
    · subst ha
      obtain ⟨j, rfl⟩ : ∃ j, k = j + 1 := ⟨k - 1, by omega⟩
      rw [pwr_zero, show V8 0 = 0 from rfl]
      generalize hj : j + 1 = q at *
      clear hF
      go_enter Try.func81, Try.ntmps81
      go_wp2
      go_ret
      exact ⟨rfl, 0, rfl⟩
    · have ha' : (V8 a == 0) = false := beq_eq_false_iff_ne.2 fun e => ha ((v8_zero a).1 e)
      have c1 := hF.log a
      rw [← v8_toNat] at c1
      have l1 := (pw_lg a ha).2
      have c3 := hF.pow ((lg a * k) % 255) (by have := Nat.mod_lt (lg a * k) (show 0 < 255 by decide); omega)
      rw [pw_mod, ← pwr_pw a ha] at c3
      have a0 := V8_nn a
      have a1 := V8_lt a
      have k1 : (k : Int).tmod 255 = k := Int.tmod_eq_of_lt (by omega) (by omega)
      have k2 : ((k : Int) + 255).tmod 255 = k := by rw [Int.tmod_eq_emod_of_nonneg (by omega)]; omega
      have hki : (k : Int) < 255 := by omega
      have hTle : lg a * k ≤ 254 * 254 := Nat.mul_le_mul (by omega) (by omega)
      obtain ⟨T, hT⟩ : ∃ T, lg a * k = T := ⟨_, rfl⟩
      rw [hT] at c3 hTle
      have hTi : ((lg a : Nat) : Int) * (k : Int) = T := by rw [← hT]; simp
      have hTl : (T : Int) ≤ 64516 := by omega
      obtain ⟨M, hM⟩ : ∃ M, T % 255 = M := ⟨_, rfl⟩
      have hMi : (T : Int).tmod 255 = M := by rw [Int.tmod_eq_emod_of_nonneg (by omega), ← hM]; simp
      have hMl : (M : Int) < 255 := by omega
      rw [hM] at c3
      have l1' : ((lg a : Nat) : Int) < 255 := by omega
      generalize lg a = la at *
      generalize pwr a k = g at *
      clear hF ha l1 hT hM h0 hTle
      go_enter Try.func81, Try.ntmps81
      go_wp2
      go_quiet (fail)
      go_wp2
      go_ret
      exact ⟨rfl, nq, rfl⟩
end Go.Proofs.Ytllnocffmlagjaa
