/- Contract of ref07.turn. Conditions: turned by 1 to 31 places. -/
import Derived.Test.YtllnocffmlagjaaA1
set_option linter.unusedVariables false
namespace Go.Proofs.Ytllnocffmlagjaa
open Go.RowKit
attribute [local go_sem] v32_xor v32_or v32_and v32_not v32_add

set_option maxHeartbeats 400000 in
theorem rturn_any (x : UInt32) (N : Int) (n : Nat) (hN : N = n) (h0 : 0 < n) (h1 : n < 32) (w : World) :
    Calls Try.prog 57 #[.int .u32 (V32 x), .int .i64 N] w fun e w' => e = .returned (.int .u32 (V32 (rotr x n))) ∧ ∃ n, w' = w.drewN n := by
  have x0 := V32_nn x
  have x1 := V32_lt x
  have n0 : 0 < N := by omega
  have n1 : N < 32 := by omega
  go_enter Try.func57, Try.ntmps57
  go_wp2
  go_quiet (fail)
  go_wp2
  go_ret
  refine ⟨ret_int ?_, nq, rfl⟩
  have e := v32_shl x (32 - n) (by omega)
  rw [v32_shr _ _ h1, e, v32_or, rotr]
end Go.Proofs.Ytllnocffmlagjaa
