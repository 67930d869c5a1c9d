import Derived.Test.YtllnocffmlagjaaProg
import Derived.Test.YtllnocffmlagjaaA0
import Derived.WalkKit
import Derived.LoopTactic
import Derived.Lib.Hide
import Derived.Deep.QuietTactic
import Derived.BigQuiet
namespace Go.Proofs.Ytllnocffmlagjaa
open Go.RowKit
attribute [local go_sem] v32_xor v32_or v32_and v32_not v32_add


/-! the count of a word's bits -/
def ones (n k : Nat) : Int := 2 ^ (n - k) - 1
theorem ones_half (n k : Nat) (h : k < n) : ones n k / 2 = ones n (k + 1) := by
  unfold ones
  have e : n - k = (n - (k + 1)) + 1 := by omega
  rw [e, Int.pow_succ]; omega
theorem ones_ne (n k : Nat) (h : k < n) : (ones n k == 0) = false := by
  unfold ones
  have e : n - k = (n - (k + 1)) + 1 := by omega
  have h1 : (1 : Int) ≤ 2 ^ (n - (k + 1)) := Int.pow_pos (by decide)
  rw [e, Int.pow_succ, beq_eq_false_iff_ne]; omega
theorem ones_end (n : Nat) : ones n n = 0 := by simp [ones]

set_option maxHeartbeats 400000 in
theorem bits32_any (w : World) : Calls Try.prog 90 #[] w fun e w' => e = .returned (.int .i64 32) ∧ w' = w := by
  have hx : bits BinOp.xor IntKind.u32 IntKind.u32.max 0 = 4294967295 := by decide
  have hs : IntKind.u32.signed = false := rfl
  go_enter Try.func90, Try.ntmps90
  go_wp2
  go_loop [1, 2] (fun n x => ∃ k : Nat, k ≤ 32 ∧ n = .int .i64 k ∧ x = .int .u32 (ones 32 k)) (fun n _ => 32 - (intOf n).toNat)
  case atStart => exact ⟨0, by omega, rfl, rfl⟩
  case round =>
    obtain ⟨k, hk, rfl, rfl⟩ := hrel
    by_cases hlt : k < 32
    · have h1 := ones_half 32 k hlt
      have h2 := ones_ne 32 k hlt
      go_wp2
      go_round
      case rel => exact ⟨k + 1, by omega, rfl, rfl⟩
      case measure => simp [intOf]; omega
    · obtain rfl : k = 32 := by omega
      have h0 := ones_end 32
      go_wp2
      go_ret
      exact ⟨rfl, rfl⟩

set_option maxHeartbeats 400000 in
theorem bits64_any (w : World) : Calls Try.prog 85 #[] w fun e w' => e = .returned (.int .i64 64) ∧ w' = w := by
  have hx : bits BinOp.xor IntKind.u64 IntKind.u64.max 0 = ones 64 0 := by decide
  have hs : IntKind.u64.signed = false := rfl
  go_enter Try.func85, Try.ntmps85
  go_wp2
  go_loop [1, 2] (fun n x => ∃ k : Nat, k ≤ 64 ∧ n = .int .i64 k ∧ x = .int .u64 (ones 64 k)) (fun n _ => 64 - (intOf n).toNat)
  case atStart => exact ⟨0, by omega, rfl, rfl⟩
  case round =>
    obtain ⟨k, hk, rfl, rfl⟩ := hrel
    by_cases hlt : k < 64
    · have h1 := ones_half 64 k hlt
      have h2 := ones_ne 64 k hlt
      go_wp2
      go_round
      case rel => exact ⟨k + 1, by omega, rfl, rfl⟩
      case measure => simp [intOf]; omega
    · obtain rfl : k = 64 := by omega
      have h0 := ones_end 64
      go_wp2
      go_ret
      exact ⟨rfl, rfl⟩
set_option maxHeartbeats 400000 in
theorem turn_any (x : UInt32) (t : Int) (n : Nat) (ht : t = -(n : Int)) (h0 : 0 < n) (h1 : n < 32) (w : World) :
    Calls Try.prog 101 #[.int .u32 (V32 x), .int .i64 t] w fun e w' => e = .returned (.int .u32 (V32 (x <<< (32 - n).toUInt32 ||| x >>> n.toUInt32))) ∧ ∃ n, w' = w.drewN n := by
  obtain ⟨s, hs, hs1, hs2⟩ : ∃ s : Nat, s + n = 32 ∧ 0 < s ∧ s < 32 := ⟨32 - n, by omega, by omega, by omega⟩
  obtain rfl : n = 32 - s := by omega
  subst ht
  have x0 := V32_nn x
  have x1 := V32_lt x
  have e1 : (-((((32 - s : Nat) : Int)) % 32) + 32) % 32 = (s : Int) := by omega
  have e2 : (-((((32 - s : Nat) : Int)) % 32) % 32 == 0) = false := by rw [beq_eq_false_iff_ne]; omega
  have e3 : ((s : Int) == 0) = false := by rw [beq_eq_false_iff_ne]; omega
  go_enter Try.func101, Try.ntmps101
  go_wp2_with (go_at_call 90; refine (bits32_any _).mono ?_; rintro e w' ⟨rfl, rfl⟩)
  go_quiet (fail)
  go_wp2
  go_ret
  refine ⟨ret_int ?_, nq, rfl⟩
  rw [v32_shr _ _ (by omega), v32_shl _ _ hs2, v32_or, show 32 - (32 - s) = s by omega]

/-- rotate right -/
def rotr (x : UInt32) (n : Nat) : UInt32 := x >>> n.toUInt32 ||| x <<< (32 - n).toUInt32
theorem turn_r (x : UInt32) (t : Int) (n : Nat) (ht : t = -(n : Int)) (h0 : 0 < n) (h1 : n < 32) (w : World) :
    Calls Try.prog 101 #[.int .u32 (V32 x), .int .i64 t] w fun e w' => e = .returned (.int .u32 (V32 (rotr x n))) ∧ ∃ n, w' = w.drewN n := by
  refine (turn_any x t n ht h0 h1 w).mono fun e w' ⟨he, h⟩ => ⟨?_, h⟩
  rw [he, rotr, UInt32.or_comm]

def sig3 (x : UInt32) (a b c : Nat) : UInt32 := rotr x a ^^^ rotr x b ^^^ rotr x c
set_option maxHeartbeats 400000 in
theorem turned_any (x : UInt32) (a b c : Nat) (ia ib ic : Int) (ha : ia = a) (hb : ib = b) (hc : ic = c) (a0 : 0 < a) (a1 : a < 32) (b0 : 0 < b) (b1 : b < 32) (c0 : 0 < c) (c1 : c < 32) (w : World) :
    Calls Try.prog 89 #[.int .u32 (V32 x), .int .i64 ia, .int .i64 ib, .int .i64 ic] w fun e w' => e = .returned (.int .u32 (V32 (sig3 x a b c))) ∧ ∃ n, w' = w.drewN n := by
  subst ha hb hc
  go_enter Try.func89, Try.ntmps89
  go_wp2_with (go_at_call 101; refine (turn_r _ _ _ rfl (by assumption) (by assumption) _).mono ?_; rintro e w' ⟨rfl, n1, rfl⟩)
  go_ret
  exact ⟨rfl, _, rfl⟩
end Go.Proofs.Ytllnocffmlagjaa
