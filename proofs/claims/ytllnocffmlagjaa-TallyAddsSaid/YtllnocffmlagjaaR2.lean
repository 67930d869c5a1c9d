/- Contract of ref07.Fraction. Conditions: the power 2 or 3. -/
import Derived.Test.YtllnocffmlagjaaR1
set_option linter.unusedVariables false
namespace Go.Proofs.Ytllnocffmlagjaa
open Go.RowKit

def fracL (p n : Nat) : Nat → Nat → Nat
  | 0, x => x
  | b + 1, x => fracL p n b (if aboveL (x + 2 ^ b) p n then x else x + 2 ^ b)

set_option maxRecDepth 100000 in
set_option maxHeartbeats 1000000 in
theorem fraction_any (w : World) (p n : Nat) (hn : n = 2 ∨ n = 3) :
    Calls Try.prog 56 #[.int .u64 p, .int .i64 n] w fun e w' => e = .returned (.int .u32 (V32 (UInt32.ofNat (fracL p n 36 0)))) ∧ Below w.heap.size w w' := by
  obtain ⟨R, hR⟩ : ∃ R, R = fracL p n 36 0 := ⟨_, rfl⟩
  rw [← hR]
  have HR := Lib.hid hR
  have HN := Lib.hid hn
  clear hR hn
  go_enter Try.func56, Try.ntmps56
  go_wp2
  go_loopw [5, 6] (fun X i wr => ∃ (j x : Nat), j ≤ 36 ∧ X = .int .u64 x ∧ i = .int .i64 ((j : Int) - 1) ∧ x + 2 ^ j ≤ 68719476736 ∧ Hid (R = fracL p n j x) ∧ Below w.heap.size w wr) (fun _ i _ => (intOf i + 1).toNat)
  case atStart => exact ⟨36, 0, by omega, rfl, rfl, by decide, HR, Below.refl _ _⟩
  case round =>
    obtain ⟨j, x, hj, rfl, rfl, hxj, hcj, hB⟩ := hrel
    cases j with
    | zero =>
      have h0 : ((0 : Nat) : Int) - 1 = -1 := rfl
      rw [h0]
      have hc : Hid (R = x) := by rw [Hid, hcj.out]; rfl
      have hx : IntKind.u32.wrap (x : Int) = V32 (UInt32.ofNat x) := by
        unfold V32; rw [IntKind.wrap_u32, UInt32.toNat_ofNat']; omega
      rw [IntKind.wrap_u32] at hx
      have HB := Lib.hid hB
      clear hxj hcj
      have HX := Lib.hid hx
      clear hx
      go_wp2
      go_ret
      exact ⟨by rw [hc.out, HX.out]; rfl, HB.out⟩
    | succ j =>
      have e : ((j + 1 : Nat) : Int) - 1 = j := by omega
      rw [e]
      have hj35 : (j : Int) ≤ 35 := by omega
      have hpw : (2 : Nat) ^ (j + 1) = 2 * 2 ^ j := by rw [Nat.pow_succ]; omega
      have hcj2 : Hid (R = fracL p n j (if aboveL (x + 2 ^ j) p n then x else x + 2 ^ j)) := by rw [Hid, hcj.out]; rfl
      have hpos : 0 < 2 ^ j := Nat.two_pow_pos j
      obtain ⟨Y, hY⟩ : ∃ Y, Y = 2 ^ j := ⟨_, rfl⟩
      have hYi : (2 : Int) ^ j = Y := by rw [hY]; simp
      rw [hpw, ← hY] at hxj
      rw [← hY] at hpos
      have hab := fun w => above_any w (x + Y) p n (by omega) HN.out
      have hxi : (x : Int) + Y ≤ 68719476736 := by omega
      rw [← hY] at hcj2
      have Hxj : Hid (x + 2 * Y ≤ 68719476736) := hxj
      have HY := Lib.hid hY
      have HB := Lib.hid hB
      clear hcj hpw hxj hY hB
      have Hj := Lib.hid (show j ≤ 36 by omega)
      generalize aboveL (x + Y) p n = ab at *
      cases ab
      · go_wp2_with (go_at_call 91; refine (hab _).mono ?_; rintro e w1 ⟨rfl, hB1⟩)
        have hB2 := below_then HB.out HB.out.size hB1
        exact ⟨⟨j, x + Y, Hj.out, by simp, rfl, by rw [← HY.out]; have := Hxj.out; omega, by simpa using hcj2, hB2⟩, by simp [intOf] <;> omega⟩
      · go_wp2_with (go_at_call 91; refine (hab _).mono ?_; rintro e w1 ⟨rfl, hB1⟩)
        have hB2 := below_then HB.out HB.out.size hB1
        exact ⟨⟨j, x, Hj.out, rfl, rfl, by rw [← HY.out]; have := Hxj.out; omega, by simpa using hcj2, hB2⟩, by simp [intOf] <;> omega⟩
end Go.Proofs.Ytllnocffmlagjaa
