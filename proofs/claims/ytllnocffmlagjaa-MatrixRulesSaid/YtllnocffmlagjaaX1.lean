/- Contracts of field.double, field.Slow at 3. Conditions: none. -/
import Derived.Test.YtllnocffmlagjaaX0
import Derived.Test.YtllnocffmlagjaaM1
set_option linter.unusedVariables false
namespace Go.Proofs.Ytllnocffmlagjaa
open Go.RowKit

theorem v8_num (a : UInt8) (n : Nat) (h : n < 8) : n.toUInt8.toNat = n := by
  show (UInt8.ofNat n).toNat = n
  rw [UInt8.toNat_ofNat']; exact Nat.mod_eq_of_lt (by omega)
theorem v8_shl1 (a : UInt8) : V8 a * (2 : Int) % (256 : Int) = V8 (a <<< 1) := by
  unfold V8; rw [UInt8.toNat_shiftLeft]
  show _ = ((a.toNat <<< 1 % 2 ^ 8 : Nat) : Int)
  rw [Nat.shiftLeft_eq]; omega
theorem v8_shr7 (a : UInt8) : V8 a / (128 : Int) = V8 (a >>> 7) := by
  unfold V8; rw [UInt8.toNat_shiftRight]
  show _ = ((a.toNat >>> 7 : Nat) : Int)
  rw [Nat.shiftRight_eq_div_pow]; omega
theorem v8_xor27 (a : UInt8) : bits .xor .u8 (V8 a) 27 = V8 (a ^^^ 27) := v8_xor a 27

set_option maxHeartbeats 400000 in
theorem double_any (w : World) (a : UInt8) : Calls Try.prog 92 #[.int .u8 (V8 a)] w fun e w' => e = .returned (.int .u8 (V8 (dbl a))) ∧ w' = w := by
  rcases bit7 a with h | h
  · have hd : dbl a = a <<< 1 := by unfold dbl; rw [h, if_neg (by decide)]
    have h0 : V8 a / 128 = 0 := by rw [v8_shr7, h]; rfl
    rw [hd]
    have hl := V8_rng a
    clear h hd
    go_enter Try.func92, Try.ntmps92
    go_wp2
    go_ret
    exact ⟨ret_int (by have := v8_shl1 a; omega), rfl⟩
  · have hd : dbl a = (a <<< 1) ^^^ 27 := by unfold dbl; rw [h, if_pos rfl]
    have h0 : V8 a / 128 = 1 := by rw [v8_shr7, h]; rfl
    rw [hd]
    have hl := V8_rng a
    clear h hd
    go_enter Try.func92, Try.ntmps92
    go_wp2
    go_ret
    exact ⟨ret_int (by rw [v8_shl1, v8_xor27]), rfl⟩

attribute [local go_sem] v8_xor
set_option maxHeartbeats 400000 in
theorem slow3_any (w : World) (a : UInt8) : Calls Try.prog 59 #[.int .u8 (V8 a), .int .u8 3] w fun e w' => e = .returned (.int .u8 (V8 (m3 a))) ∧ w' = w := by
  have hz : ∀ x : UInt8, bits .xor .u8 0 (V8 x) = V8 x := fun x => by
    have := v8_xor 0 x
    rw [UInt8.zero_xor] at this; exact this
  have b3 : bits .and .u8 3 1 = 1 := by decide
  have b1 : bits .and .u8 1 1 = 1 := by decide
  have HM : Hid (m3 a = a ^^^ dbl a) := rfl
  generalize m3 a = M at *
  go_enter Try.func59, Try.ntmps59
  go_wp2
  go_loop [0, 1, 5] (fun x b o => (b = .int .u8 3 ∧ x = .int .u8 (V8 a) ∧ o = .int .u8 0) ∨ (b = .int .u8 1 ∧ x = .int .u8 (V8 (dbl a)) ∧ o = .int .u8 (V8 a)) ∨ (b = .int .u8 0 ∧ ∃ y : UInt8, x = .int .u8 (V8 y) ∧ o = .int .u8 (V8 (a ^^^ dbl a)))) (fun _ b _ => (intOf b).toNat)
  case atStart => exact .inl ⟨rfl, rfl, rfl⟩
  case round =>
    rcases hrel with ⟨rfl, rfl, rfl⟩ | ⟨rfl, rfl, rfl⟩ | ⟨rfl, y, rfl, rfl⟩
    · go_wp2_with (go_at_call 92; refine (double_any _ _).mono ?_; rintro e w' ⟨rfl, rfl⟩)
      go_round
      case rel => exact .inr (.inl ⟨rfl, rfl, rfl⟩)
      case measure => simp [intOf]
    · go_wp2_with (go_at_call 92; refine (double_any _ _).mono ?_; rintro e w' ⟨rfl, rfl⟩)
      go_round
      case rel => exact .inr (.inr ⟨rfl, _, rfl, rfl⟩)
      case measure => simp [intOf]
    · go_wp2
      go_ret
      exact ⟨by rw [HM.out]; rfl, rfl⟩
end Go.Proofs.Ytllnocffmlagjaa
