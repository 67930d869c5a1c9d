/- Contracts of Field.Mul, Inv. Conditions: the field lies whole. -/
import Derived.Test.YtllnocffmlagjaaX2
set_option linter.unusedVariables false
namespace Go.Proofs.Ytllnocffmlagjaa
open Go.RowKit

theorem v8_toNat (a : UInt8) : (V8 a).toNat = a.toNat := by unfold V8; rfl
theorem v8_zero (a : UInt8) : V8 a = 0 ↔ a = 0 := by
  constructor
  · intro h; exact UInt8.toNat_inj.1 (by unfold V8 at h; simpa using h)
  · rintro rfl; rfl
set_option maxRecDepth 100000 in
set_option maxHeartbeats 1000000 in
theorem mul_any (w : World) (F : Nat) (hF : FD w F) (a b : UInt8) :
    Calls Try.prog 64 #[.pointer (some ⟨F, 0, none⟩), .int .u8 (V8 a), .int .u8 (V8 b)] w fun e w' => e = .returned (.int .u8 (V8 (gm a b))) ∧ ∃ n, w' = w.drewN n := by
  by_cases ha : a = 0
  · subst ha
    rw [gm_zero_l, show V8 0 = 0 from rfl]
    clear hF
    go_enter Try.func64, Try.ntmps64
    go_wp2
    go_ret
    exact ⟨rfl, 0, rfl⟩
  · have ha' : (V8 a == 0) = false := beq_eq_false_iff_ne.2 fun e => ha ((v8_zero a).1 e)
    by_cases hb : b = 0
    · subst hb
      rw [gm_zero_r, show V8 0 = 0 from rfl]
      clear hF
      go_enter Try.func64, Try.ntmps64
      go_wp2
      go_ret
      exact ⟨rfl, 0, rfl⟩
    · have hb' : (V8 b == 0) = false := beq_eq_false_iff_ne.2 fun e => hb ((v8_zero b).1 e)
      have c1 := hF.log a
      have c2 := hF.log b
      rw [← v8_toNat] at c1 c2
      have l1 := (pw_lg a ha).2
      have l2 := (pw_lg b hb).2
      have c3 := hF.pow (lg a + lg b) (by omega)
      rw [← gm_tab a b ha hb] at c3
      have a0 := V8_nn a
      have a1 := V8_lt a
      have b0 := V8_nn b
      have b1 := V8_lt b
      have l1' : ((lg a : Nat) : Int) < 255 := by omega
      have l2' : ((lg b : Nat) : Int) < 255 := by omega
      generalize lg a = la at *
      generalize lg b = lb at *
      generalize gm a b = g at *
      clear hF ha hb l1 l2
      go_enter Try.func64, Try.ntmps64
      go_wp2
      go_quiet (fail)
      go_wp2
      go_ret
      exact ⟨rfl, nq, rfl⟩
set_option maxRecDepth 100000 in
set_option maxHeartbeats 1000000 in
theorem inv_any (w : World) (F : Nat) (hF : FD w F) (a : UInt8) (ha : a ≠ 0) :
    Calls Try.prog 82 #[.pointer (some ⟨F, 0, none⟩), .int .u8 (V8 a)] w fun e w' => e = .returned (.tuple #[.int .u8 (V8 (iv a)), .int .i64 0]) ∧ ∃ n, w' = w.drewN n := by
  have ha' : (V8 a == 0) = false := beq_eq_false_iff_ne.2 fun e => ha ((v8_zero a).1 e)
  have c1 := hF.log a
  rw [← v8_toNat] at c1
  have l1 := (pw_lg a ha).2
  have c3 := hF.pow (255 - lg a) (by omega)
  have hi : pw (255 - lg a) = iv a := by unfold iv; rw [if_neg ha]
  rw [hi] at c3
  have a0 := V8_nn a
  have a1 := V8_lt a
  obtain ⟨d, hd⟩ : ∃ d, 255 - lg a = d := ⟨_, rfl⟩
  rw [hd] at c3
  have hdi : (255 : Int) - ((lg a : Nat) : Int) = d := by omega
  have l1' : ((lg a : Nat) : Int) < 255 := by omega
  have d1 : (d : Int) ≤ 255 := by omega
  generalize lg a = la at *
  generalize iv a = g at *
  clear hF ha l1 hi hd
  go_enter Try.func82, Try.ntmps82
  go_wp2
  go_quiet (fail)
  go_wp2
  go_ret2
  exact ⟨rfl, nq, rfl⟩
end Go.Proofs.Ytllnocffmlagjaa
