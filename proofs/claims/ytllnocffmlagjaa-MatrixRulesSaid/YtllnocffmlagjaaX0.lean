/- The field of 256 numbers, as plain Lean: powers of 3, logarithms, products, inverses; its laws. Conditions: each theorem names its own. -/
import Derived.Test.YtllnocffmlagjaaA0
set_option linter.unusedVariables false
namespace Go.Proofs.Ytllnocffmlagjaa

def dbl (a : UInt8) : UInt8 := if a >>> 7 = 1 then (a <<< 1) ^^^ 27 else a <<< 1
/-- times 3 -/
def m3 (a : UInt8) : UInt8 := a ^^^ dbl a
def pw : Nat → UInt8
  | 0 => 1
  | n + 1 => m3 (pw n)
/-- the last of the first k powers that is x -/
def lgN : Nat → UInt8 → Nat
  | 0, _ => 0
  | k + 1, x => if pw k = x then k else lgN k x
def lg (x : UInt8) : Nat := lgN 255 x
def m3i : Nat → UInt8 → UInt8
  | 0, x => x
  | n + 1, x => m3 (m3i n x)
def gm (a b : UInt8) : UInt8 := if a = 0 then 0 else m3i (lg a) b
def iv (a : UInt8) : UInt8 := if a = 0 then 0 else pw (255 - lg a)

theorem lgN_spec (x : UInt8) : ∀ k, (∃ i, i < k ∧ pw i = x) → pw (lgN k x) = x ∧ lgN k x < k := by
  intro k
  induction k with
  | zero => rintro ⟨i, hi, _⟩; omega
  | succ k ih =>
    rintro ⟨i, hi, hx⟩
    rw [lgN]
    split
    · rename_i h; exact ⟨h, by omega⟩
    · rename_i h
      have := ih ⟨i, by
        by_cases e : i = k
        · subst e; exact absurd hx h
        · omega, hx⟩
      exact ⟨this.1, by omega⟩
def pwL : Nat → UInt8 → List UInt8
  | 0, _ => []
  | n + 1, x => x :: pwL n (m3 x)
theorem pwL_mem : ∀ n x, x ∈ pwL n 1 → ∃ i, i < n ∧ pw i = x := by
  have key : ∀ n k x, x ∈ pwL n (pw k) → ∃ i, i < n ∧ pw (k + i) = x := by
    intro n
    induction n with
    | zero => intro k x h; simp [pwL] at h
    | succ n ih =>
      intro k x h
      rw [pwL, List.mem_cons] at h
      rcases h with rfl | h
      · exact ⟨0, by omega, rfl⟩
      · obtain ⟨i, hi, he⟩ := ih (k + 1) x h
        exact ⟨i + 1, by omega, by rw [← he]; congr 1; omega⟩
  intro n x h
  obtain ⟨i, hi, he⟩ := key n 0 x h
  exact ⟨i, hi, by rw [← he]; congr 1; omega⟩
def seen (l : List UInt8) : Nat → Bool
  | 0 => true
  | n + 1 => l.contains (UInt8.ofNat (n + 1)) && seen l n
theorem seen_at (l : List UInt8) : ∀ n, seen l n = true → ∀ k, 1 ≤ k → k ≤ n → UInt8.ofNat k ∈ l
  | 0, _, k, h1, h2 => by omega
  | n + 1, h, k, h1, h2 => by
    rw [seen, Bool.and_eq_true] at h
    by_cases e : k = n + 1
    · subst e; exact List.contains_iff_mem.1 h.1
    · exact seen_at l n h.2 k h1 (by omega)
theorem seen_all : seen (pwL 255 1) 255 = true := by decide +kernel
theorem pw_onto (x : UInt8) (h : x ≠ 0) : ∃ i, i < 255 ∧ pw i = x := by
  refine pwL_mem 255 x ?_
  have hx := x.toNat_lt
  have h0 : x.toNat ≠ 0 := fun e => h (UInt8.toNat_inj.1 e)
  have := seen_at _ 255 seen_all x.toNat (by omega) (by omega)
  rwa [UInt8.ofNat_toNat] at this
theorem pw_lg (x : UInt8) (h : x ≠ 0) : pw (lg x) = x ∧ lg x < 255 := lgN_spec x 255 (pw_onto x h)
theorem pw_255 : pw 255 = 1 := by decide +kernel

theorem bit7 (a : UInt8) : a >>> 7 = 0 ∨ a >>> 7 = 1 := by
  have h : (a >>> 7).toNat = a.toNat / 128 := by
    rw [UInt8.toNat_shiftRight]; show a.toNat >>> 7 = _; rw [Nat.shiftRight_eq_div_pow]
  have := a.toNat_lt
  by_cases e : a.toNat < 128
  · left; apply UInt8.toNat_inj.1; rw [h]; show _ = 0; omega
  · right; apply UInt8.toNat_inj.1; rw [h]; show _ = 1; omega
theorem dbl_xor (a b : UInt8) : dbl (a ^^^ b) = dbl a ^^^ dbl b := by
  unfold dbl
  rw [UInt8.shiftRight_xor, UInt8.shiftLeft_xor]
  rcases bit7 a with ha | ha <;> rcases bit7 b with hb | hb <;> rw [ha, hb]
  · rfl
  · rw [if_pos (by decide), if_neg (by decide), if_pos rfl, UInt8.xor_assoc]
  · rw [if_pos (by decide), if_pos rfl, if_neg (by decide), UInt8.xor_assoc, UInt8.xor_assoc, UInt8.xor_comm (b <<< 1)]
  · rw [if_neg (by decide), if_pos rfl, if_pos rfl]
    rw [UInt8.xor_comm (b <<< 1) 27, UInt8.xor_assoc, ← UInt8.xor_assoc 27 27, UInt8.xor_self, UInt8.zero_xor]
theorem xor4 (a b c d : UInt8) : (a ^^^ b) ^^^ (c ^^^ d) = (a ^^^ c) ^^^ (b ^^^ d) := by
  rw [UInt8.xor_assoc, UInt8.xor_assoc, ← UInt8.xor_assoc b, ← UInt8.xor_assoc c, UInt8.xor_comm b c]
theorem m3_xor (a b : UInt8) : m3 (a ^^^ b) = m3 a ^^^ m3 b := by unfold m3; rw [dbl_xor, xor4]
theorem m3i_xor (n : Nat) (a b : UInt8) : m3i n (a ^^^ b) = m3i n a ^^^ m3i n b := by
  induction n with
  | zero => rfl
  | succ n ih => rw [m3i, ih, m3_xor]; rfl
theorem m3_zero : m3 0 = 0 := by decide
theorem m3i_zero (n : Nat) : m3i n 0 = 0 := by
  induction n with
  | zero => rfl
  | succ n ih => rw [m3i, ih, m3_zero]
theorem m3i_pw (n k : Nat) : m3i n (pw k) = pw (n + k) := by
  induction n with
  | zero => rw [Nat.zero_add]; rfl
  | succ n ih => rw [m3i, ih, Nat.add_right_comm]; rfl
theorem m3i_m3i (n k : Nat) (x : UInt8) : m3i n (m3i k x) = m3i (n + k) x := by
  induction n with
  | zero => rw [Nat.zero_add]; rfl
  | succ n ih => rw [m3i, ih, Nat.add_right_comm]; rfl
theorem pw_period (k : Nat) : pw (k + 255) = pw k := by rw [← m3i_pw k 255, pw_255]; exact m3i_pw k 0
theorem pw_times (j : Nat) : pw (255 * j) = 1 := by
  induction j with
  | zero => rfl
  | succ j ih => rw [Nat.mul_succ, pw_period, ih]
theorem pw_mod (k : Nat) : pw (k % 255) = pw k := by
  conv => rhs; rw [← Nat.mod_add_div k 255]
  rw [← m3i_pw (k % 255) (255 * (k / 255)), pw_times]
  exact (m3i_pw (k % 255) 0).symm
theorem pw_ne (n : Nat) : pw n ≠ 0 := by
  intro h
  have h1 := m3i_pw (254 * n) n
  rw [h, m3i_zero, show 254 * n + n = 255 * n by omega, pw_times] at h1
  exact absurd h1 (by decide)
theorem m3i_same (i j : Nat) (h : pw i = pw j) (c : UInt8) : m3i i c = m3i j c := by
  by_cases hc : c = 0
  · subst hc; rw [m3i_zero, m3i_zero]
  · obtain ⟨k, _, rfl⟩ := pw_onto c hc
    rw [m3i_pw, m3i_pw, Nat.add_comm i, Nat.add_comm j, ← m3i_pw k i, ← m3i_pw k j, h]
theorem gm_zero_l (b : UInt8) : gm 0 b = 0 := by unfold gm; rw [if_pos rfl]
theorem gm_zero_r (a : UInt8) : gm a 0 = 0 := by
  unfold gm; split
  · rfl
  · exact m3i_zero _
theorem gm_pw (i j : Nat) : gm (pw i) (pw j) = pw (i + j) := by
  unfold gm
  rw [if_neg (pw_ne i), m3i_same (lg (pw i)) i (pw_lg _ (pw_ne i)).1, m3i_pw]
/-- what the program computes -/
theorem gm_tab (a b : UInt8) (ha : a ≠ 0) (hb : b ≠ 0) : gm a b = pw (lg a + lg b) := by
  conv => lhs; rw [← (pw_lg a ha).1, ← (pw_lg b hb).1]
  exact gm_pw _ _
theorem gm_comm (a b : UInt8) : gm a b = gm b a := by
  by_cases ha : a = 0
  · subst ha; rw [gm_zero_l, gm_zero_r]
  · by_cases hb : b = 0
    · subst hb; rw [gm_zero_l, gm_zero_r]
    · rw [gm_tab a b ha hb, gm_tab b a hb ha, Nat.add_comm]
theorem gm_ne (a b : UInt8) (ha : a ≠ 0) (hb : b ≠ 0) : gm a b ≠ 0 := by rw [gm_tab a b ha hb]; exact pw_ne _
theorem gm_assoc (a b c : UInt8) : gm (gm a b) c = gm a (gm b c) := by
  by_cases ha : a = 0
  · subst ha; rw [gm_zero_l, gm_zero_l, gm_zero_l]
  · by_cases hb : b = 0
    · subst hb; rw [gm_zero_r, gm_zero_l, gm_zero_r]
    · by_cases hc : c = 0
      · subst hc; rw [gm_zero_r, gm_zero_r, gm_zero_r]
      · obtain ⟨i, _, rfl⟩ := pw_onto a ha
        obtain ⟨j, _, rfl⟩ := pw_onto b hb
        obtain ⟨k, _, rfl⟩ := pw_onto c hc
        rw [gm_pw, gm_pw, gm_pw, gm_pw, Nat.add_assoc]
theorem gm_xor_r (a b c : UInt8) : gm a (b ^^^ c) = gm a b ^^^ gm a c := by
  unfold gm; split
  · rfl
  · exact m3i_xor _ _ _
theorem gm_xor_l (a b c : UInt8) : gm (a ^^^ b) c = gm a c ^^^ gm b c := by rw [gm_comm, gm_xor_r, gm_comm c a, gm_comm c b]
theorem gm_one_l (b : UInt8) : gm 1 b = b := by
  unfold gm
  rw [if_neg (by decide), m3i_same (lg 1) 0 (pw_lg 1 (by decide)).1]; rfl
theorem gm_one_r (b : UInt8) : gm b 1 = b := by rw [gm_comm, gm_one_l]
theorem gm_iv (a : UInt8) (h : a ≠ 0) : gm a (iv a) = 1 := by
  have hl := pw_lg a h
  unfold iv
  rw [if_neg h]
  conv => lhs; arg 1; rw [← hl.1]
  rw [gm_pw, show lg a + (255 - lg a) = 255 by omega, pw_255]
theorem iv_ne (a : UInt8) (h : a ≠ 0) : iv a ≠ 0 := by unfold iv; rw [if_neg h]; exact pw_ne _
theorem gm_cancel (a b c : UInt8) (h : a ≠ 0) (he : gm a b = gm a c) : b = c := by
  have := congrArg (gm (iv a)) he
  rw [← gm_assoc, ← gm_assoc, gm_comm (iv a) a, gm_iv a h, gm_one_l, gm_one_l] at this
  exact this
end Go.Proofs.Ytllnocffmlagjaa
