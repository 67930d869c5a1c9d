/- Contract of ref07.Primes at 64. Conditions: none. -/
import Derived.Test.YtllnocffmlagjaaR2
set_option linter.unusedVariables false
namespace Go.Proofs.Ytllnocffmlagjaa
open Go.RowKit

def prL : List Nat := [2, 3, 5, 7, 11, 13, 17, 19, 23, 29, 31, 37, 41, 43, 47, 53, 59, 61, 67, 71, 73, 79, 83, 89, 97, 101, 103, 107, 109, 113, 127, 131, 137, 139, 149, 151, 157, 163, 167, 173, 179, 181, 191, 193, 197, 199, 211, 223, 227, 229, 233, 239, 241, 251, 257, 263, 269, 271, 277, 281, 283, 293, 307, 311]
def below (p : Nat) : List Nat := prL.filter fun q => decide (q < p)
def isP (ds : List Nat) (p : Nat) : Bool := ds.all fun q => p % q != 0
theorem below_table : ∀ p, p < 312 → 2 ≤ p → ((below p).length < 64 ∧ below (p + 1) = if isP (below p) p then below p ++ [p] else below p) := by decide +kernel
theorem below_start : [] = below 2 := by decide +kernel
theorem int_rem (p q : Nat) : ((p : Int) % q != 0) = (p % q != 0) := by
  have : (p : Int) % q = ((p % q : Nat) : Int) := by simp
  rw [this]
  generalize p % q = r
  cases r <;> rfl
theorem below_end : below 312 = prL := by decide +kernel
theorem prL_two : ∀ q ∈ prL, 2 ≤ q ∧ q ≤ 311 := by decide +kernel
theorem below_two (p q : Nat) (h : q ∈ below p) : 2 ≤ q ∧ q ≤ 311 := prL_two q (List.mem_filter.1 h).1
theorem isP_snoc (ds : List Nat) (j p : Nat) (h : j < ds.length) : isP (ds.take (j + 1)) p = (isP (ds.take j) p && (p % ds.getD j 0 != 0)) := by
  unfold isP
  rw [List.take_succ_eq_append_getElem h, List.all_append, List.getD_eq_getElem?_getD, List.getElem?_eq_getElem h]; simp

set_option maxRecDepth 100000 in
set_option maxHeartbeats 1000000 in
theorem primes_any (w : World) : Calls Try.prog 55 #[.int .i64 64] w fun e w' => ∃ r, e = .returned r ∧ OD w w' r prL := by
  have hnew : OD w (w.alloc (.cells #[] 71)) (.slice (some ⟨w.heap.size, 0, none⟩) 0 0) [] := OD.new w [] (by simp [maxLen]) (Below.refl _ _)
  go_enter Try.func55, Try.ntmps55
  go_wp2
  go_loopw [3, 4] (fun out P wr => ∃ (p : Nat) (ds : List Nat), 2 ≤ p ∧ p ≤ 312 ∧ P = .int .u64 p ∧ Hid (ds = below p) ∧ OD w wr out ds) (fun _ P _ => (312 - intOf P).toNat)
  case atStart => exact ⟨2, [], by omega, by omega, rfl, below_start, hnew⟩
  case round =>
    obtain ⟨p, ds, hp2, hp, rfl, hds, hOD⟩ := hrel
    obtain ⟨A, cap, rfl⟩ := hOD.shape
    by_cases hlt : p < 312
    · obtain ⟨hlen, hstep⟩ := below_table p hlt hp2
      rw [← hds.out] at hlen hstep
      have h2 : ∀ j, j < ds.length → 2 ≤ ds.getD j 0 ∧ ds.getD j 0 ≤ 311 := fun j hj => by
        refine below_two p _ ?_
        rw [← hds.out, List.getD_eq_getElem?_getD, List.getElem?_eq_getElem hj]
        exact List.getElem_mem _
      have H2 := Lib.hid h2
      have HS := Lib.hid hstep
      have HC := Lib.hid (fun i h => hOD.cell i h)
      have HN := Lib.hid (fun j h => isP_snoc ds j p h)
      have HZ := Lib.hid (List.take_length (l := ds))
      have Hp2 := Lib.hid hp2
      have hpi : (p : Int) ≤ 311 := by omega
      have hpi0 : (2 : Int) ≤ p := by omega
      obtain ⟨n, hn⟩ : ∃ n, ds.length = n := ⟨_, rfl⟩
      rw [hn] at hlen H2 HC HN HZ hOD ⊢
      have HD := Lib.hid hOD
      have hn64 : (n : Int) < 64 := by omega
      have HL := Lib.hid hn
      clear h2 hstep hOD hlt hp hp2 hlen hn
      go_wp2
      go_loop [5, 17] (fun is i => ∃ j : Nat, j ≤ n ∧ i = .int .i64 j ∧ is = .bool (isP (ds.take j) p)) (fun _ i => (n - intOf i).toNat)
      case atStart => exact ⟨0, by omega, rfl, rfl⟩
      case round =>
        obtain ⟨j, hj, rfl, rfl⟩ := hrel
        by_cases hjl : j < n
        · have hjl' : (j : Int) < n := by omega
          obtain ⟨b, o, rfl, hc⟩ := HC.out j hjl
          obtain ⟨q2, q311⟩ := H2.out j hjl
          have hq := HN.out j hjl
          generalize ds.getD j 0 = q at *
          have hq0 : ¬ ((q : Int) = 0) := by omega
          have hqi : (q : Int) ≤ 311 := by omega
          have hqi2 : (2 : Int) ≤ q := by omega
          have Hq := Lib.hid hq
          have Hj1 : Hid (j + 1 ≤ n) := hjl
          clear hq q2 q311 hjl hj
          generalize isP (ds.take j) p = is at *
          cases is
          · go_wp2
            exact ⟨⟨j + 1, Hj1.out, by simp, by rw [Hq.out]; rfl⟩, by simp [intOf] <;> omega⟩
          · go_wp2
            exact ⟨⟨j + 1, Hj1.out, by simp, by rw [Hq.out, int_rem]; rfl⟩, by simp [intOf] <;> omega⟩
        · obtain rfl : j = n := by omega
          rw [HZ.out]
          have HS2 := HS.out
          generalize isP ds p = is at *
          clear hjl hj
          cases is
          · have hds2 : Hid (ds = below (p + 1)) := by rw [Hid, HS2]; simp
            clear HS2
            go_wp2
            exact ⟨⟨p + 1, ds, by omega, by omega, by simp, hds2, HD.out⟩, by simp [intOf] <;> omega⟩
          · have hds2 : Hid (ds ++ [p] = below (p + 1)) := by rw [Hid, HS2]; simp
            clear HS2
            go_wp2_with (at_builtin; refine wpL_pushD _ _ rfl _ _ rfl _ _ rfl HD.out _ p rfl rfl (j + 1) (by rw [HL.out]) (by omega) ?_; intro A3 cap3 w3 hO3)
            exact ⟨⟨p + 1, _, by omega, by omega, by simp, hds2, hO3⟩, by simp [intOf] <;> omega⟩
    · obtain rfl : p = 312 := by omega
      rw [hds.out, below_end] at hOD
      rw [hds.out, below_end]
      clear hlt hp hp2
      go_wp2
      go_ret
      exact ⟨_, rfl, hOD⟩
end Go.Proofs.Ytllnocffmlagjaa
