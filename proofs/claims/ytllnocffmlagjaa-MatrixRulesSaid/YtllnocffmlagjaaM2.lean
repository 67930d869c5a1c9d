/- Contracts of word.Put, word.Get, slices.Grow, slices.Concat. Conditions: each theorem names its own. -/
import Derived.Test.YtllnocffmlagjaaM1
set_option linter.unusedVariables false
namespace Go.Proofs.Ytllnocffmlagjaa
open Go.RowKit
attribute [local go_sem] v32_xor v32_or v32_and v32_not v32_add

def be4 (x : UInt32) : List UInt8 := [(x >>> 24).toUInt8, (x >>> 16).toUInt8, (x >>> 8).toUInt8, x.toUInt8]
theorem be4_at (x : UInt32) (k : Nat) (h : k < 4) : IntKind.u8.wrap (V32 x / 2 ^ (24 - 8 * k)) = V8 ((be4 x).getD k 0) := by
  rw [v32_shr x _ (by omega)]
  have e : ∀ y : UInt32, IntKind.u8.wrap (V32 y) = V8 y.toUInt8 := by
    intro y; unfold V32 V8; rw [IntKind.wrap_u8, UInt32.toNat_toUInt8]; omega
  rw [e]
  obtain rfl | rfl | rfl | rfl : k = 0 ∨ k = 1 ∨ k = 2 ∨ k = 3 := by omega
  all_goals simp [be4]
theorem be4_take (x : UInt32) (k : Nat) (h : k < 4) : (be4 x).take (k + 1) = (be4 x).take k ++ [(be4 x).getD k 0] := by
  have hl : k < (be4 x).length := by simp [be4]; omega
  rw [List.take_succ_eq_append_getElem hl, List.getD_eq_getElem?_getD, List.getElem?_eq_getElem hl]; rfl

set_option maxHeartbeats 400000 in
set_option maxRecDepth 20000 in
theorem put32_any (w : World) (v : Value) (bs : List UInt8) (x : UInt32) (hv : Sl w v (bv bs)) (hl : bs.length ≤ 140737488355000) :
    Calls Try.prog 54 #[v, .int .u32 (V32 x)] w fun e w' => ∃ r, e = .returned r ∧ OB w w' r (bs ++ be4 x) := by
  have x0 := V32_nn x
  have x1 := V32_lt x
  have hc := clone_ob w w (Below.refl _ _) v bs hv (by omega)
  go_enter Try.func54, Try.ntmps54
  go_wp2_with (first | (go_at_call 78; refine hc.mono ?_; rintro e w1 ⟨r, rfl, _, ho1⟩) | (go_at_call 90; refine (bits32_any _).mono ?_; rintro e w2 ⟨rfl, rfl⟩))
  clear hc
  go_loopw [5, 6] (fun out sh wr => ∃ (k : Nat) (s : Int) (cs : List UInt8), k ≤ 4 ∧ Hid (s = 24 - 8 * k) ∧ Hid (cs = bs ++ (be4 x).take k) ∧ sh = .int .i64 s ∧ OB w wr out cs) (fun _ sh _ => (intOf sh + 8).toNat)
  case atStart => exact ⟨0, 24, bs, by omega, rfl, by simp [Hid], rfl, ho1⟩
  case round =>
    obtain ⟨k, s, cs, hk, hs, hcs, rfl, hOB⟩ := hrel
    by_cases hlt : k < 4
    · obtain ⟨A, cap, rfl⟩ := hOB.shape
      have hlen : cs.length ≤ 140737488355010 := by rw [hcs.out]; simp [be4]; omega
      have s0 : 0 ≤ s := by rw [hs.out]; omega
      have s1 : s ≤ 24 := by rw [hs.out]; omega
      have hY : Hid (V32 x / 2 ^ s.toNat % 256 = V8 ((be4 x).getD k 0)) := by
        have := be4_at x k hlt
        rw [IntKind.wrap_u8] at this
        rw [Hid, show s.toNat = 24 - 8 * k by rw [hs.out]; omega]; exact this
      go_wp2_with (at_builtin; refine wpL_push w _ rfl _ _ rfl _ _ rfl hOB _ ((be4 x).getD k 0) hY.out rfl _ rfl (by omega) ?_; intro A2 cap2 w3 hOB2)
      go_roundw
      case rel => exact ⟨k + 1, s - 8, _, by omega, by rw [Hid, hs.out]; omega, by rw [Hid, be4_take x k hlt, hcs.out, List.append_assoc, List.getD_eq_getElem?_getD], rfl, hOB2⟩
      case measure => simp [intOf]; omega
    · obtain rfl : k = 4 := by omega
      have s0 : s < 0 := by rw [hs.out]; omega
      clear hlt hk hl; have t0 : (s ≥ 0) = False := by simp; omega
      go_wp2
      go_ret
      refine ⟨_, rfl, ?_⟩
      rw [hcs.out, List.take_of_length_le (by simp [be4])] at hOB
      exact hOB

def V64 (x : UInt64) : Int := (x.toNat : Int)
theorem V64_lt (x : UInt64) : V64 x < 18446744073709551616 := by have := x.toNat_lt; unfold V64; omega
theorem V64_nn (x : UInt64) : 0 ≤ V64 x := by unfold V64; omega
def be8 (x : UInt64) : List UInt8 := [(x >>> 56).toUInt8, (x >>> 48).toUInt8, (x >>> 40).toUInt8, (x >>> 32).toUInt8, (x >>> 24).toUInt8, (x >>> 16).toUInt8, (x >>> 8).toUInt8, x.toUInt8]
theorem u64_num (n : Nat) (h : n < 64) : n.toUInt64.toNat = n := by
  show (UInt64.ofNat n).toNat = n
  rw [UInt64.toNat_ofNat']; exact Nat.mod_eq_of_lt (by omega)
theorem v64_shr (a : UInt64) (n : Nat) (h : n < 64) : V64 a / 2 ^ n = V64 (a >>> n.toUInt64) := by
  unfold V64; rw [UInt64.toNat_shiftRight, u64_num n h, Nat.mod_eq_of_lt h, Nat.shiftRight_eq_div_pow, Int.natCast_ediv, Int.natCast_pow]; rfl
theorem be8_at (x : UInt64) (k : Nat) (h : k < 8) : IntKind.u8.wrap (V64 x / 2 ^ (56 - 8 * k)) = V8 ((be8 x).getD k 0) := by
  rw [v64_shr x _ (by omega)]
  have e : ∀ y : UInt64, IntKind.u8.wrap (V64 y) = V8 y.toUInt8 := by
    intro y; unfold V64 V8; rw [IntKind.wrap_u8, UInt64.toNat_toUInt8]; omega
  rw [e]
  obtain rfl | rfl | rfl | rfl | rfl | rfl | rfl | rfl : k = 0 ∨ k = 1 ∨ k = 2 ∨ k = 3 ∨ k = 4 ∨ k = 5 ∨ k = 6 ∨ k = 7 := by omega
  all_goals simp [be8]
theorem be8_take (x : UInt64) (k : Nat) (h : k < 8) : (be8 x).take (k + 1) = (be8 x).take k ++ [(be8 x).getD k 0] := by
  have hl : k < (be8 x).length := by simp [be8]; omega
  rw [List.take_succ_eq_append_getElem hl, List.getD_eq_getElem?_getD, List.getElem?_eq_getElem hl]; rfl

set_option maxHeartbeats 400000 in
theorem put64_any (w : World) (v : Value) (bs : List UInt8) (x : UInt64) (X : Int) (hX : X = V64 x) (hv : Sl w v (bv bs)) (hl : bs.length ≤ 140737488355000) :
    Calls Try.prog 50 #[v, .int .u64 X] w fun e w' => ∃ r, e = .returned r ∧ OB w w' r (bs ++ be8 x) := by
  subst hX
  have x0 := V64_nn x
  have x1 := V64_lt x
  have hc := clone_ob w w (Below.refl _ _) v bs hv (by omega)
  go_enter Try.func50, Try.ntmps50
  go_wp2_with (first | (go_at_call 78; refine hc.mono ?_; rintro e w1 ⟨r, rfl, _, ho1⟩) | (go_at_call 85; refine (bits64_any _).mono ?_; rintro e w2 ⟨rfl, rfl⟩))
  clear hc
  go_loopw [5, 6] (fun out sh wr => ∃ (k : Nat) (s : Int) (cs : List UInt8), k ≤ 8 ∧ Hid (s = 56 - 8 * k) ∧ Hid (cs = bs ++ (be8 x).take k) ∧ sh = .int .i64 s ∧ OB w wr out cs) (fun _ sh _ => (intOf sh + 8).toNat)
  case atStart => exact ⟨0, 56, bs, by omega, rfl, by simp [Hid], rfl, ho1⟩
  case round =>
    obtain ⟨k, s, cs, hk, hs, hcs, rfl, hOB⟩ := hrel
    by_cases hlt : k < 8
    · obtain ⟨A, cap, rfl⟩ := hOB.shape
      have hlen : cs.length ≤ 140737488355010 := by rw [hcs.out]; simp [be8]; omega
      have s0 : 0 ≤ s := by rw [hs.out]; omega
      have s1 : s ≤ 56 := by rw [hs.out]; omega
      have hY : Hid (V64 x / 2 ^ s.toNat % 256 = V8 ((be8 x).getD k 0)) := by
        have := be8_at x k hlt
        rw [IntKind.wrap_u8] at this
        rw [Hid, show s.toNat = 56 - 8 * k by rw [hs.out]; omega]; exact this
      go_wp2_with (at_builtin; refine wpL_push w _ rfl _ _ rfl _ _ rfl hOB _ ((be8 x).getD k 0) hY.out rfl _ rfl (by omega) ?_; intro A2 cap2 w3 hOB2)
      go_roundw
      case rel => exact ⟨k + 1, s - 8, _, by omega, by rw [Hid, hs.out]; omega, by rw [Hid, be8_take x k hlt, hcs.out, List.append_assoc, List.getD_eq_getElem?_getD], rfl, hOB2⟩
      case measure => simp [intOf]; omega
    · obtain rfl : k = 8 := by omega
      have s0 : s < 0 := by rw [hs.out]; omega
      clear hlt hk hl x0 x1
      go_wp2
      go_ret
      refine ⟨_, rfl, ?_⟩
      rw [hcs.out, List.take_of_length_le (by simp [be8])] at hOB
      exact hOB

/-! ### word.Get[uint32] -/
def gw (a b c d : UInt8) : UInt32 := a.toUInt32 <<< 24 ||| b.toUInt32 <<< 16 ||| c.toUInt32 <<< 8 ||| d.toUInt32
/-- the number that the first k of four bytes write -/
def nb (bs : List UInt8) : Nat → Nat
  | 0 => 0
  | k + 1 => nb bs k * 256 + (bs.getD k 0).toNat
theorem nb_lt (bs : List UInt8) (k : Nat) : nb bs k < 256 ^ k := by
  induction k with
  | zero => simp [nb]
  | succ k ih => have := (bs.getD k 0).toNat_lt; simp only [nb, Nat.pow_succ]; omega
theorem nb_step (bs : List UInt8) (k : Nat) (hk : k < 4) (X : Int) (hX : X = (nb bs k : Nat)) :
    bits .or .u64 (X * 256 % 18446744073709551616) (V8 (bs.getD k 0)) = (nb bs (k + 1) : Nat) := by
  have h1 := nb_lt bs k
  have h2 : 256 ^ k ≤ 256 ^ 3 := Nat.pow_le_pow_right (by decide) (by omega)
  have h3 := (bs.getD k 0).toNat_lt
  have h4 : nb bs k < 16777216 := by omega
  subst hX
  have e : ((nb bs k : Nat) : Int) * 256 % 18446744073709551616 = ((nb bs k * 256 : Nat) : Int) := by omega
  rw [e]
  unfold V8
  rw [u64_or_nat _ _ (by omega) (by omega), nat_join 8 _ _ (by omega) (by omega)]
  rfl
theorem gw_nb (bs : List UInt8) : V32 (gw (bs.getD 0 0) (bs.getD 1 0) (bs.getD 2 0) (bs.getD 3 0)) = ((nb bs 4 : Nat) : Int) := by
  have h0 := (bs.getD 0 0).toNat_lt
  have h1 := (bs.getD 1 0).toNat_lt
  have h2 := (bs.getD 2 0).toNat_lt
  have h3 := (bs.getD 3 0).toNat_lt
  unfold V32 gw
  congr 1
  simp only [UInt32.toNat_or, UInt32.toNat_shiftLeft, UInt8.toNat_toUInt32, nb]
  generalize (bs.getD 0 0).toNat = a at *
  generalize (bs.getD 1 0).toNat = b at *
  generalize (bs.getD 2 0).toNat = c at *
  generalize (bs.getD 3 0).toNat = d at *
  have e1 : a <<< ((24 : UInt32).toNat % 32) % 2 ^ 32 = a * 16777216 := by
    show a <<< 24 % 2 ^ 32 = _
    rw [Nat.shiftLeft_eq]; omega
  have e2 : b <<< ((16 : UInt32).toNat % 32) % 2 ^ 32 = b * 65536 := by
    show b <<< 16 % 2 ^ 32 = _
    rw [Nat.shiftLeft_eq]; omega
  have e3 : c <<< ((8 : UInt32).toNat % 32) % 2 ^ 32 = c * 256 := by
    show c <<< 8 % 2 ^ 32 = _
    rw [Nat.shiftLeft_eq]; omega
  rw [e1, e2, e3, nat_join 24 (a * 16777216) (b * 65536) (by omega) (by omega), nat_join 16 _ (c * 256) (by omega) (by omega), nat_join 8 _ d (by omega) (by omega)]
  omega
end Go.Proofs.Ytllnocffmlagjaa
