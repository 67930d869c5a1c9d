/- Contract of law31.lives. Conditions: none. -/
import Derived.Test.YtllnocffmlagjaaS3
set_option linter.unusedVariables false
namespace Go.Proofs.Ytllnocffmlagjaa
open Go.RowKit

theorem mark_hi : ((mark (List.replicate 20 11) [72, 105, 32, 84, 104, 101, 114, 101]).take 4) = [176, 52, 76, 97] := by decide +kernel
theorem mark_length (key m : List UInt8) : (mark key m).length = 32 := sha_length _
/-- A byte slice of 32 whose first four bytes are known, opened. -/
theorem OB.four {w w1 : World} {r : Value} {S : List UInt8} (h : OB w w1 r S) (hl : S.length = 32) (a b c d : UInt8) (h4 : S.take 4 = [a, b, c, d]) :
    ∃ g o cp, r = .slice (some ⟨g, o, none⟩) 32 cp ∧ w1.cell? ⟨g, o, none⟩ = some (.int .u8 (V8 a)) ∧ w1.cell? ⟨g, o + 1, none⟩ = some (.int .u8 (V8 b)) ∧ w1.cell? ⟨g, o + 2, none⟩ = some (.int .u8 (V8 c)) ∧ w1.cell? ⟨g, o + 3, none⟩ = some (.int .u8 (V8 d)) := by
  obtain ⟨A, cp, rfl, _, _, _, hr⟩ := h.sl.openB
  obtain ⟨g, o, rfl, hc0⟩ := hr.byte 0 (by omega)
  have hk : ∀ i, i < 4 → w1.cell? ⟨g, o + i, none⟩ = some (.int .u8 (V8 ([a, b, c, d].getD i 0))) := by
    intro i hi
    obtain ⟨g', o', e, hc⟩ := hr.byte i (by omega)
    cases e
    rw [hc, ← h4, List.getD_eq_getElem?_getD, List.getD_eq_getElem?_getD, List.getElem?_take, if_pos hi]
  exact ⟨g, o, cp, by rw [hl], hk 0 (by omega), hk 1 (by omega), hk 2 (by omega), hk 3 (by omega)⟩

set_option maxRecDepth 100000 in
set_option maxHeartbeats 1000000 in
theorem lives31 (w : World) : Calls Try.prog 41 #[] w fun e w' => e = .returned (.bool true) ∧ Below w.heap.size w w' := by
  have hf := fun k h1 => set_fill (List.replicate 20 (11 : UInt8)) k 20 h1 (by rw [List.length_replicate])
  have hg : ∀ k, k < 20 → (List.replicate 20 (11 : UInt8)).getD k 0 = 11 := by decide
  generalize hL : List.replicate 20 (11 : UInt8) = L at *
  have HF := Lib.hid (fun k (h : k < 20) => (show _ from (by have := hf k h; rw [hg k h] at this; exact this)))
  have hLl : L.length = 20 := by rw [← hL, List.length_replicate]
  have HM := Lib.hid mark_hi
  rw [hL] at HM
  have Hml := Lib.hid (mark_length L [72, 105, 32, 84, 104, 101, 114, 101])
  have e11 : (11 : Int) = V8 11 := rfl
  have HLl := Lib.hid hLl
  clear hf hg hL hLl e11
  go_enter Try.func41, Try.ntmps41
  go_wp2_with (with_reducible refine wpL_make _ rfl _ _ 22 5 _ 1 rfl Try.underlying22 inf5 rfl _ 20 rfl rfl rfl (by omega) (by omega) ?_; intro w2 hw2 hb2)
  have hO := OB.zeros hw2 (Below.refl _ w) hb2
  clear hw2 hb2
  go_loopw [2, 7] (fun _ i wr => ∃ (k : Nat) (zs : List UInt8), k ≤ 20 ∧ Hid (zs = L.take k ++ List.replicate (20 - k) 0) ∧ zs.length = 20 ∧ i = .int .i64 k ∧ OB w wr (.slice (some ⟨w.heap.size, 0, none⟩) 20 20) zs) (fun _ i _ => (20 - intOf i).toNat)
  case atStart => exact ⟨0, _, by omega, rfl, by simp, rfl, by simpa using hO⟩
  case round =>
    obtain ⟨k, zs, hk, hzs, hzl, rfl, hOB⟩ := hrel
    by_cases hlt : k < 20
    · have hlt' : (k : Int) < 20 := by omega
      have hf := HF.out k hlt
      rw [← hzs.out] at hf
      have hset : OB w (wr.setCell ⟨w.heap.size, k, none⟩ (.int .u8 11)) (.slice (some ⟨w.heap.size, 0, none⟩) 20 20) (zs.set k 11) := hOB.set k 11
      have hcz := hOB.cellB k (by omega)
      have hfz := hOB.frozenB k
      generalize zs.getD k 0 = z at *
      have HS := Lib.hid hset
      have Hf := Lib.hid hf
      have Hk1 : Hid (k + 1 ≤ 20) := hlt
      clear hset hf hOB hlt hk
      go_wp2
      go_roundw
      case rel => exact ⟨k + 1, _, Hk1.out, Hf.out, by rw [List.length_set]; exact hzl, by go_num, HS.out⟩
      case measure => simp [intOf]; omega
    · obtain rfl : k = 20 := by omega
      have hz : Hid (zs = L) := by rw [Hid, hzs.out, List.take_of_length_le (by rw [HLl.out]; omega), Nat.sub_self]; simp
      rw [hz.out] at hOB
      have hal1 : Below wr.heap.size wr (wr.alloc (.cells (bv [72, 105, 32]).toArray 5 (3, 4))) := (Below.refl _ wr).alloc (Nat.le_refl _) _
      have hs1 := Sl_newF wr 5 (3, 4) (bv [72, 105, 32]) (by simp [bv, maxLen])
      have hal2 : Below (wr.alloc (.cells (bv [72, 105, 32]).toArray 5 (3, 4))).heap.size (wr.alloc (.cells (bv [72, 105, 32]).toArray 5 (3, 4))) ((wr.alloc (.cells (bv [72, 105, 32]).toArray 5 (3, 4))).alloc (.cells (bv [84, 104, 101, 114, 101]).toArray 5 (5, 6))) := (Below.refl _ _).alloc (Nat.le_refl _) _
      have hs2 := Sl_newF (wr.alloc (.cells (bv [72, 105, 32]).toArray 5 (3, 4))) 5 (5, 6) (bv [84, 104, 101, 114, 101]) (by simp [bv, maxLen])
      have hp := Parts.two _ _ _ _ _ (hs1.below hal2) hs2
      have hal12 := below_then hal1 hal1.size hal2
      generalize hW2 : (wr.alloc (.cells (bv [72, 105, 32]).toArray 5 (3, 4))).alloc (.cells (bv [84, 104, 101, 114, 101]).toArray 5 (5, 6)) = W2 at *
      rw [World.size_alloc] at hp
      have hal3 := below_then hal12 hal12.size ((Below.refl W2.heap.size W2).alloc (Nat.le_refl _) (.cells #[.slice (some ⟨wr.heap.size, 0, none⟩) 3 3, .slice (some ⟨wr.heap.size + 1, 0, none⟩) 5 5] 22))
      have hm := mark_any _ _ _ L [[72, 105, 32], [84, 104, 101, 114, 101]] (hOB.sl.below hal3) hp (by rw [HLl.out]; omega) (by simp) (by simp)
      have hcall := hm.mono (R' := fun e w' => ∃ g o c, e = .returned (.slice (some ⟨g, o, none⟩) 32 c) ∧ w'.cell? ⟨g, o, none⟩ = some (.int .u8 176) ∧ w'.cell? ⟨g, o + 1, none⟩ = some (.int .u8 52) ∧ w'.cell? ⟨g, o + 2, none⟩ = some (.int .u8 76) ∧ w'.cell? ⟨g, o + 3, none⟩ = some (.int .u8 97) ∧ Hid (Below w.heap.size w w')) (fun e w' ⟨r, he, ho⟩ => by
        obtain ⟨g, o, c, rfl, c0, c1, c2, c3⟩ := ho.four Hml.out 176 52 76 97 HM.out
        have hx := below_then hOB.2 hOB.2.size hal3
        exact ⟨g, o, c, he, c0, c1, c2, c3, below_then hx hx.size ho.2⟩)
      have s2 : W2.heap.size = wr.heap.size + 1 + 1 := by rw [← hW2]; simp [World.size_alloc]
      rw [s2] at hcall
      clear s2
      have HW := Lib.hid (show (wr.alloc (.cells #[.int .u8 72, .int .u8 105, .int .u8 32] 5 (3, 4))).alloc (.cells #[.int .u8 84, .int .u8 104, .int .u8 101, .int .u8 114, .int .u8 101] 5 (5, 6)) = W2 from hW2)
      clear hm hp hal3 hal12 hs2 hal1 hal2 hs1 hW2 hOB hlt hk hz
      have kc1 := Lib.run_convert_bytes_const (P := Try.prog) wr 22 5 #[.int .u8 72, .int .u8 105, .int .u8 32] 3 3 Try.underlying22 Try.underlying5
      have kc2 := Lib.run_convert_bytes_const (P := Try.prog) (wr.alloc (.cells #[.int .u8 72, .int .u8 105, .int .u8 32] 5 (3, 4))) 22 5 #[.int .u8 84, .int .u8 104, .int .u8 101, .int .u8 114, .int .u8 101] 5 5 Try.underlying22 Try.underlying5
      rw [World.size_alloc] at kc2
      go_wp2_with (go_at_call 42; rw [HW.out]; refine hcall.mono ?_; rintro e w1 ⟨g, o, c, rfl, c0, c1, c2, c3, hB⟩; clear hcall)
      go_ret
      exact ⟨rfl, hB.out⟩
end Go.Proofs.Ytllnocffmlagjaa
