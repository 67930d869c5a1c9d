/- Contract of law07.lives (the hash's example). Conditions: none. -/
import Derived.Lib.SlBytesConst
import Derived.Test.YtllnocffmlagjaaH3
set_option linter.unusedVariables false
namespace Go.Proofs.Ytllnocffmlagjaa
open Go.RowKit

theorem sha_abc : (sha [97, 98, 99]).getD 0 0 = 186 ∧ (sha [97, 98, 99]).getD 1 0 = 120 := by decide +kernel
theorem shaN_length (m : List UInt8) (q : Nat) : (shaN m q).length = 8 := by rw [← stateOf_all]; exact stateOf_length _ _
theorem sha_length (bs : List UInt8) : (sha bs).length = 32 := by
  have : ∀ l : List UInt32, (l.flatMap be4).length = 4 * l.length := by
    intro l
    induction l with
    | nil => rfl
    | cons x l ih => rw [List.flatMap_cons, List.length_append, ih]; simp [be4]; omega
  rw [sha, this, shaN_length]

/-- A new row of cells with the run-time's mark, as a slice. -/
theorem Sl_newF (w : World) (e : TypeId) (fr : Nat × Nat) (xs : List Value) (h : xs.length ≤ maxLen) : Sl (w.alloc (.cells xs.toArray e fr)) (.slice (some ⟨w.heap.size, 0, none⟩) xs.length xs.length) xs := by
  refine ⟨_, _, rfl, Nat.le_refl _, h, by simp, fun i hi => ⟨_, _, rfl, ?_⟩⟩
  rw [cell_of_row _ _ _ xs.toArray e fr (by show (w.heap.push _)[w.heap.size]? = _; simp)]
  simp [hi, List.getD_eq_getElem?_getD]
/-- A new slice of one byte slice. -/
theorem Parts.one (W : World) (u : Value) (bs : List UInt8) (h : Sl W u (bv bs)) : Parts (W.alloc (.cells #[u] 22)) (.slice (some ⟨W.heap.size, 0, none⟩) 1 1) [bs] := by
  refine ⟨[u], Sl_new W 22 [u] (by simp [maxLen]), rfl, fun i hi => ?_⟩
  have hi0 : i = 0 := by simpa using hi
  subst hi0
  exact h.below ((Below.refl _ W).alloc (Nat.le_refl _) _)

/-- A byte slice of 32 whose first two bytes are known, opened. -/
theorem OB.two {w w1 : World} {r : Value} {S : List UInt8} (h : OB w w1 r S) (hl : S.length = 32) (a b : UInt8) (h0 : S.getD 0 0 = a) (h1 : S.getD 1 0 = b) :
    ∃ g o c, r = .slice (some ⟨g, o, none⟩) 32 c ∧ w1.cell? ⟨g, o, none⟩ = some (.int .u8 (V8 a)) ∧ w1.cell? ⟨g, o + 1, none⟩ = some (.int .u8 (V8 b)) := by
  obtain ⟨A, c, rfl, _, _, _, hr⟩ := h.sl.openB
  obtain ⟨g, o, rfl, hc0⟩ := hr.byte 0 (by omega)
  obtain ⟨g', o', e, hc1⟩ := hr.byte 1 (by omega)
  cases e
  exact ⟨g, o, c, by rw [hl], by rw [← h0]; exact hc0, by rw [← h1]; exact hc1⟩
set_option maxRecDepth 100000 in
set_option maxHeartbeats 400000 in
theorem lives07 (w : World) : Calls Try.prog 12 #[] w fun e w' => e = .returned (.bool true) ∧ Below w.heap.size w w' := by
  obtain ⟨W, hW⟩ : ∃ W, W = (w.alloc (.cells #[.int .u8 97, .int .u8 98, .int .u8 99] 5 (3, 4))).alloc (.cells #[.slice (some ⟨w.heap.size, 0, none⟩) 3 3] 22) := ⟨_, rfl⟩
  have hb : Below w.heap.size w W := by rw [hW]; exact ((Below.refl _ w).alloc (Nat.le_refl _) _).alloc (by simp) _
  have hp : Parts W (.slice (some ⟨w.heap.size + 1, 0, none⟩) 1 1) [[97, 98, 99]] := by
    have hsl := Sl_newF w 5 (3, 4) (bv [97, 98, 99]) (by simp [bv, maxLen])
    have hp := Parts.one _ _ _ hsl
    rw [World.size_alloc] at hp
    rw [hW]; exact hp
  have hsum : Calls Try.prog 13 #[.slice (some ⟨w.heap.size + 1, 0, none⟩) 1 1] W fun e w' => ∃ g o c, e = .returned (.slice (some ⟨g, o, none⟩) 32 c) ∧ w'.cell? ⟨g, o, none⟩ = some (.int .u8 186) ∧ w'.cell? ⟨g, o + 1, none⟩ = some (.int .u8 120) ∧ Hid (Below w.heap.size w w') :=
    (sum_any _ _ _ hp (by simp) (by simp)).mono fun e w' ⟨r, he, ho⟩ => by
      obtain ⟨g, o, c, hr, h0, h1⟩ := ho.two (sha_length _) 186 120 sha_abc.1 sha_abc.2
      exact ⟨g, o, c, by rw [he, hr], h0, h1, below_then hb hb.size ho.2⟩
  have HW := Lib.hid hW
  have hconv := Lib.run_convert_bytes_const (P := Try.prog) w 22 5 #[.int .u8 97, .int .u8 98, .int .u8 99] 3 3 Try.underlying22 Try.underlying5
  clear hp hb hW
  go_enter Try.func12, Try.ntmps12
  go_wp2_with (go_at_call 13; rw [← HW.out]; refine hsum.mono ?_; rintro e w1 ⟨g, o, c, rfl, hc0, hc1, hB⟩; clear hsum)
  go_ret
  exact ⟨rfl, hB.out⟩
end Go.Proofs.Ytllnocffmlagjaa
