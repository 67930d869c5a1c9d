/- Contract of word.Get[uint32]. Conditions: at least four bytes. -/
import Derived.Test.YtllnocffmlagjaaM2
set_option linter.unusedVariables false
namespace Go.Proofs.Ytllnocffmlagjaa
open Go.RowKit

set_option maxHeartbeats 400000 in
theorem get32_any (w : World) (v : Value) (bs : List UInt8) (hv : Sl w v (bv bs)) (h4 : 4 ≤ bs.length) :
    Calls Try.prog 100 #[v] w fun e w' => e = .returned (.tuple #[.int .u32 (V32 (gw (bs.getD 0 0) (bs.getD 1 0) (bs.getD 2 0) (bs.getD 3 0))), .bool true]) ∧ w' = w := by
  have hg := Lib.hid (gw_nb bs)
  generalize gw (bs.getD 0 0) (bs.getD 1 0) (bs.getD 2 0) (bs.getD 3 0) = G at *
  obtain ⟨a, cap, rfl, h1, h2, h3, hr⟩ := hv.openB
  obtain ⟨b, o, rfl, _⟩ := hr.byte 0 (by omega)
  have hc : ∀ i, i < 4 → w.cell? ⟨b, o + i, none⟩ = some (.int .u8 (V8 (bs.getD i 0))) := fun i hi => by
    obtain ⟨b', o', e, h⟩ := hr.byte i (by omega)
    cases e; exact h
  have HC := Lib.hid hc
  generalize bs.length = n at *
  clear hc hr hv h2 h3
  go_enter Try.func100, Try.ntmps100
  go_wp2_with (go_at_call 90; refine (bits32_any _).mono ?_; rintro e w2 ⟨rfl, rfl⟩)
  go_loop [5, 18] (fun x i => ∃ (k : Nat) (X : Int), k ≤ 4 ∧ Hid (X = (nb bs k : Nat)) ∧ x = .int .u64 X ∧ i = .int .i64 k) (fun _ i => (4 - intOf i).toNat)
  case atStart => exact ⟨0, 0, by omega, rfl, rfl, rfl⟩
  case round =>
    obtain ⟨k, X, hk, hX, rfl, rfl⟩ := hrel
    by_cases hlt : k < 4
    · have hcell := HC.out k hlt
      have hlt' : (k : Int) < 4 := by omega
      have y0 := V8_nn (bs.getD k 0)
      have y1 := V8_lt (bs.getD k 0)
      have hst := Lib.hid (nb_step bs k hlt X hX.out)
      have X0 : 0 ≤ X := by rw [hX.out]; omega
      generalize V8 (bs.getD k 0) = Y at *
      go_wp2
      go_round
      case rel => exact ⟨k + 1, _, by omega, hst.out, rfl, rfl⟩
      case measure => simp [intOf]; omega
    · obtain rfl : k = 4 := by omega
      have hw : IntKind.u32.wrap X = V32 G := by
        rw [hX.out, ← hg.out, IntKind.wrap_u32]
        have := V32_lt G
        have := V32_nn G
        omega
      rw [IntKind.wrap_u32] at hw
      clear hk hlt
      go_wp2
      go_ret2
      exact ⟨rfl, rfl⟩
end Go.Proofs.Ytllnocffmlagjaa
