/- Contracts of the leaves of tally and of its reference: left, item, both. Conditions: at most 20 items; lengths within memory. -/
import Derived.Test.YtllnocffmlagjaaS3
import Derived.Lib.Strings
import Derived.Lib.Slices
import Derived.Lib.Small
import Derived.Lib.Walk
import Derived.Lib.BitFns
set_option linter.unusedVariables false
namespace Go.Proofs.Ytllnocffmlagjaa
open Go.RowKit

def lf (n : Nat) : Nat := 2 ^ (Lib.bitLen (n - 1) - 1)
theorem lf_table : ∀ n, n < 21 → 2 ≤ n → 1 ≤ lf n ∧ lf n < n ∧ lf n ≤ 16 ∧ n ≤ 2 * lf n ∧ 1 ≤ Lib.bitLen (n - 1) ∧ Lib.bitLen (n - 1) ≤ 5 := by decide +kernel

set_option maxHeartbeats 4000000 in
set_option maxRecDepth 100000 in
theorem len64_small (x : Int) (w : World) (h0 : 0 ≤ x) (h1 : x ≤ 19) :
    Calls Try.prog 104 #[.int .u64 x] w fun e w' => e = .returned (.int .i64 (Lib.bitLen x.toNat)) ∧ w' = w := by
  go_enter Try.func104, Try.ntmps104
  go_wp2
  go_ret
  refine ⟨congrArg Ending.returned (congrArg (Value.int IntKind.i64) ?_), rfl⟩
  have e8 := Lib.len8_of x (by omega) (by omega)
  have hsz : x.toNat < Lib.len8tab.size := by rw [Lib.len8tab_size]; omega
  have e9 : ((Lib.len8tab[x.toNat]'hsz).toNat : Int) = Lib.len8 x := by
    unfold Lib.len8
    rw [getElem?_pos Lib.len8tab x.toNat hsz]; rfl
  have l := Lib.bitLen_le8' x (by omega) (by omega)
  rw [e9, e8]
  simp only [wrap64]
  omega

set_option maxHeartbeats 1000000 in
theorem len_small (x : Int) (w : World) (h0 : 0 ≤ x) (h1 : x ≤ 19) :
    Calls Try.prog 96 #[.int .u64 x] w fun e w' => e = .returned (.int .i64 (Lib.bitLen x.toNat)) ∧ w' = w := by
  have hc := len64_small x w h0 h1
  go_enter Try.func96, Try.ntmps96
  go_wp2_with (go_at_call 104; refine hc.mono ?_; rintro e w' ⟨rfl, rfl⟩)
  go_ret
  exact ⟨rfl, rfl⟩

set_option maxHeartbeats 1000000 in
theorem left_any (w : World) (n : Nat) (h2 : 2 ≤ n) (h20 : n ≤ 20) :
    Calls Try.prog 68 #[.int .i64 n] w fun e w' => e = .returned (.int .i64 (lf n : Nat)) ∧ w' = w := by
  obtain ⟨_, _, _, _, b1, b5⟩ := lf_table n (by omega) h2
  have hc := len_small ((n : Int) - 1) w (by omega) (by omega)
  have e : ((n : Int) - 1).toNat = n - 1 := by omega
  rw [e] at hc
  have hl : Hid (((lf n : Nat) : Int) = 2 ^ (Lib.bitLen (n - 1) - 1)) := by rw [Hid, lf]; simp
  generalize Lib.bitLen (n - 1) = L at *
  generalize lf n = F at *
  have hL : (1 : Int) ≤ L := by omega
  have hL5 : (L : Int) ≤ 5 := by omega
  have hL0 : ((L : Int) - 1).toNat = L - 1 := by omega
  have HB := Lib.hid (⟨b1, b5⟩ : 1 ≤ L ∧ L ≤ 5)
  have hn : (2 : Int) ≤ n := by omega
  have hn2 : (n : Int) ≤ 20 := by omega
  clear e b1 b5
  go_enter Try.func68, Try.ntmps68
  go_wp2_with (go_at_call 96; refine hc.mono ?_; rintro e w' ⟨rfl, rfl⟩)
  go_ret
  refine ⟨ret_int ?_, rfl⟩
  rw [hl.out]
  obtain ⟨b1, b5⟩ := HB.out
  obtain rfl | rfl | rfl | rfl | rfl : L = 1 ∨ L = 2 ∨ L = 3 ∨ L = 4 ∨ L = 5 := by omega
  all_goals (rw [IntWalk.wrap64_in _ (by decide)])

theorem lf_up : ∀ n, n < 21 → ∀ j, j < 6 → 2 * 2 ^ j < n → 2 ^ (j + 1) < n ∧ j + 1 ≤ 5 ∧ 2 * 2 ^ j = 2 ^ (j + 1) := by
  intro n hn j hj
  obtain rfl | rfl | rfl | rfl | rfl | rfl : j = 0 ∨ j = 1 ∨ j = 2 ∨ j = 3 ∨ j = 4 ∨ j = 5 := by omega
  all_goals omega
theorem lf_end_all : ((List.range 21).all fun n => (List.range 6).all fun j => !decide (2 ≤ n) || !decide (2 ^ j < n) || decide (2 * 2 ^ j < n) || decide (2 ^ j = lf n)) = true := by decide +kernel
theorem lf_end (n j : Nat) (hn : n < 21) (hj : j < 6) (h2 : 2 ≤ n) (hl : 2 ^ j < n) (he : ¬ 2 * 2 ^ j < n) : 2 ^ j = lf n := by
  have h := List.all_eq_true.1 (List.all_eq_true.1 lf_end_all n (List.mem_range.2 hn)) j (List.mem_range.2 hj)
  simpa [h2, hl, he] using h
set_option maxHeartbeats 1000000 in
theorem rleft_any (w : World) (n : Nat) (h2 : 2 ≤ n) (h20 : n ≤ 20) :
    Calls Try.prog 71 #[.int .i64 n] w fun e w' => e = .returned (.int .i64 (lf n : Nat)) ∧ w' = w := by
  have HT := Lib.hid (show ∀ j, j ≤ 5 → 2 ^ j < n → ((2 * 2 ^ j < n → 2 ^ (j + 1) < n ∧ j + 1 ≤ 5 ∧ 2 * 2 ^ j = 2 ^ (j + 1)) ∧ (¬ 2 * 2 ^ j < n → 2 ^ j = lf n)) from by
    intro j hj hl
    exact ⟨lf_up n (by omega) j (by omega), lf_end n j (by omega) (by omega) h2 hl⟩)
  have hn : (2 : Int) ≤ n := by omega
  have hn2 : (n : Int) ≤ 20 := by omega
  have H20 := Lib.hid h20
  generalize lf n = F at *
  clear h20
  go_enter Try.func71, Try.ntmps71
  go_wp2
  go_loop [3, 4] (fun k _ => ∃ (j K : Nat), j ≤ 5 ∧ Hid (K = 2 ^ j) ∧ K < n ∧ k = .int .i64 K) (fun k _ => (20 - intOf k).toNat)
  case atStart => exact ⟨0, 1, by omega, rfl, by omega, rfl⟩
  case round =>
    obtain ⟨j, K, hj, hK, hl, rfl⟩ := hrel
    have ht := HT.out j hj (by rw [← hK.out]; exact hl)
    rw [← hK.out] at ht
    have hK1 : 1 ≤ K := by rw [hK.out]; exact Nat.one_le_two_pow
    have hl' : (K : Int) < n := by omega
    clear hK
    by_cases hlt : 2 * K < n
    · have hlt' : (2 : Int) * K < n := by omega
      replace ht := ht.1 hlt
      have HT2 := Lib.hid ht
      clear ht
      go_wp2
      go_round
      case rel => exact ⟨j + 1, 2 * K, HT2.out.2.1, HT2.out.2.2, hlt, by go_num⟩
      case measure => simp [intOf]; omega
    · have hlt' : ¬ ((2 : Int) * K < n) := by omega
      replace ht := ht.2 hlt
      have HT2 := Lib.hid ht
      clear ht
      go_wp2
      go_ret
      refine ⟨?_, rfl⟩
      rw [HT2.out]; rfl
end Go.Proofs.Ytllnocffmlagjaa
