/- Words for the walks: bytes and 32-bit words as Lean's own UInt8 and UInt32. Conditions: none (each lemma names its own). -/
import Derived.WalkKit
import Derived.Lib.Hide
namespace Go.Proofs.Ytllnocffmlagjaa
open Go.RowKit

theorem ret_int {k : IntKind} {a b : Int} (h : a = b) : Ending.returned (.int k a) = .returned (.int k b) := by rw [h]

/-- The number of a 32-bit word, of a byte: names that the walk's simp doesn't look into. -/
def V32 (x : UInt32) : Int := (x.toNat : Int)
def V8 (x : UInt8) : Int := (x.toNat : Int)
theorem V32_rng (x : UInt32) : 0 ≤ V32 x ∧ V32 x < 4294967296 := ⟨by unfold V32; omega, by have := x.toNat_lt; unfold V32; omega⟩
theorem V8_rng (x : UInt8) : 0 ≤ V8 x ∧ V8 x < 256 := ⟨by unfold V8; omega, by have := x.toNat_lt; unfold V8; omega⟩
theorem V32_inj {x y : UInt32} : V32 x = V32 y ↔ x = y := by unfold V32; rw [Int.ofNat_inj, UInt32.toNat_inj]
theorem V8_inj {x y : UInt8} : V8 x = V8 y ↔ x = y := by unfold V8; rw [Int.ofNat_inj, UInt8.toNat_inj]
theorem V32_lt (x : UInt32) : V32 x < 4294967296 := (V32_rng x).2
theorem V8_lt (x : UInt8) : V8 x < 256 := (V8_rng x).2
theorem V32_nn (x : UInt32) : 0 ≤ V32 x := (V32_rng x).1
theorem V8_nn (x : UInt8) : 0 ≤ V8 x := (V8_rng x).1

theorem v32_add (a b : UInt32) : IntKind.u32.wrap (V32 a + V32 b) = V32 (a + b) := by
  unfold V32; rw [IntKind.wrap_u32, UInt32.toNat_add]; omega
theorem v32_xor (a b : UInt32) : bits .xor .u32 (V32 a) (V32 b) = V32 (a ^^^ b) := by
  unfold V32; rw [u32_xor_nat _ _ a.toNat_lt b.toNat_lt, UInt32.toNat_xor]
theorem v32_or (a b : UInt32) : bits .or .u32 (V32 a) (V32 b) = V32 (a ||| b) := by
  unfold V32; rw [u32_or_nat _ _ a.toNat_lt b.toNat_lt, UInt32.toNat_or]
theorem v32_and (a b : UInt32) : bits .and .u32 (V32 a) (V32 b) = V32 (a &&& b) := by
  unfold V32; rw [u32_and_nat _ _ a.toNat_lt b.toNat_lt, UInt32.toNat_and]
theorem v32_not (a : UInt32) : bits .xor .u32 IntKind.u32.max (V32 a) = V32 (~~~ a) := by
  have h : IntKind.u32.max = V32 0xffffffff := by decide
  rw [h, v32_xor]; congr 1
theorem v8_xor (a b : UInt8) : bits .xor .u8 (V8 a) (V8 b) = V8 (a ^^^ b) := by
  unfold V8; rw [u8_xor_nat _ _ a.toNat_lt b.toNat_lt, UInt8.toNat_xor]
theorem u32_num (n : Nat) (h : n < 32) : n.toUInt32.toNat = n := by
  show (UInt32.ofNat n).toNat = n
  rw [UInt32.toNat_ofNat']; exact Nat.mod_eq_of_lt (by omega)
theorem v32_shr (a : UInt32) (n : Nat) (h : n < 32) : V32 a / 2 ^ n = V32 (a >>> n.toUInt32) := by
  unfold V32; rw [UInt32.toNat_shiftRight, u32_num n h, Nat.mod_eq_of_lt h, Nat.shiftRight_eq_div_pow, Int.natCast_ediv, Int.natCast_pow]; rfl
theorem v32_shl (a : UInt32) (n : Nat) (h : n < 32) : V32 a * 2 ^ n % 4294967296 = V32 (a <<< n.toUInt32) := by
  unfold V32; rw [UInt32.toNat_shiftLeft, u32_num n h, Nat.mod_eq_of_lt h, Nat.shiftLeft_eq, Int.natCast_emod, Int.natCast_mul, Int.natCast_pow]; rfl
theorem v32_div8 (x : UInt32) : V32 x / (8 : Int) = V32 (x >>> 3) := v32_shr x 3 (by decide)
theorem v32_div1024 (x : UInt32) : V32 x / (1024 : Int) = V32 (x >>> 10) := v32_shr x 10 (by decide)
theorem v32_addm (a b : UInt32) : (V32 a + V32 b) % 4294967296 = V32 (a + b) := by rw [← v32_add, IntKind.wrap_u32]
theorem u32_unsigned : IntKind.u32.signed = false := rfl
end Go.Proofs.Ytllnocffmlagjaa
