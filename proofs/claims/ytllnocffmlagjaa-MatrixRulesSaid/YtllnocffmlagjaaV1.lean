/- Contract of law04.lives. Conditions: none. -/
import Derived.Test.YtllnocffmlagjaaV0
set_option linter.unusedVariables false
set_option linter.unusedSimpArgs false
namespace Go.Proofs.Ytllnocffmlagjaa
open Go.RowKit

theorem vand12 : (vandL [1, 2] 2).getD 1 [] = [1, 2] := by decide +kernel
set_option maxRecDepth 100000 in
set_option maxHeartbeats 1000000 in
theorem lives04_any (w : World) : Calls Try.prog 15 #[] w fun e w' => e = .returned (.bool true) ∧ Below w.heap.size w w' := by
  have hstr : strOfNums (([1, 2] : List UInt8).map V8) = { data := #[1, 2] } := by decide +kernel
  go_enter Try.func15, Try.ntmps15
  go_wp2_with (first
    | (go_at_call 58; refine (mrow_any w3 P 2 2 (vandL [1, 2] 2) hM3 1 (by omega)).mono ?_; rintro e w4 ⟨r, rfl, hO⟩; have hs := conv_str w4 r _ hO.sl; rw [vand12, hstr] at hs)
    | (go_at_call 44; refine (vand_any _ w.heap.size 2 2 _ [1, 2] (hF1.later (Below.alloc (Below.refl _ w1) (Nat.le_refl _) _)) (Sl_new w1 5 [.int .u8 1, .int .u8 2] (by simp [maxLen])) rfl (by omega) (by omega) (by omega) (by omega)).mono ?_; rintro e w3 ⟨P, lv, vs, rfl, hM⟩; have hM3 := hM.mx (vandL_rect [1, 2] 2 2 rfl (by omega) (by omega) (by omega) (by omega)))
    | (go_at_call 16; refine (fnew_any w).mono ?_; rintro e w1 ⟨rfl, hF1, hB1⟩))
  go_ret
  have hB2 := below_then hB1 hB1.size (Below.alloc (Below.refl _ w1) (Nat.le_refl _) (.cells #[.int .u8 1, .int .u8 2] 5))
  have hB3 := below_then hB2 hB2.size hM.or.below
  exact ⟨rfl, below_then hB3 hB3.size hO.2⟩
end Go.Proofs.Ytllnocffmlagjaa
