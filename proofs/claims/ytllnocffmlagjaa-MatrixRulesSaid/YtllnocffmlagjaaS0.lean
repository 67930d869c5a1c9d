/- Contract of word.Xor on byte slices of one length. Conditions: at most 1000 bytes. -/
import Derived.Test.YtllnocffmlagjaaR1
import Derived.Test.YtllnocffmlagjaaC0
import Derived.StillTailTactics
set_option linter.unusedVariables false
namespace Go.Proofs.Ytllnocffmlagjaa
open Go.RowKit
attribute [local go_sem] v8_xor

theorem OB.cellB {w0 wr : World} {g n cap : Nat} {bs : List UInt8} (h : OB w0 wr (.slice (some ⟨g, 0, none⟩) n cap) bs) (j : Nat) (hj : j < bs.length) :
    wr.cell? ⟨g, j, none⟩ = some (.int .u8 (V8 (bs.getD j 0))) := by
  obtain ⟨a, c, he, _, _, _, hr⟩ := h.sl.openB
  cases he
  obtain ⟨b, o, ha, hc⟩ := hr.byte j hj
  cases ha
  rw [Nat.zero_add] at hc; exact hc
theorem OB.len {w0 wr : World} {A : Option Addr} {n cap : Nat} {bs : List UInt8} (h : OB w0 wr (.slice A n cap) bs) : n = bs.length := by
  obtain ⟨A', c', he⟩ := h.shape
  cases he; rfl
theorem OB.frozenB {w0 wr : World} {g n cap : Nat} {bs : List UInt8} (h : OB w0 wr (.slice (some ⟨g, 0, none⟩) n cap) bs) (j : Nat) : wr.frozen? ⟨g, j, none⟩ = false := by
  have hn := h.len
  subst hn
  exact h.1.frozenAt j
theorem bv_set (bs : List UInt8) (j : Nat) (y : UInt8) : (bv bs).set j (.int .u8 (V8 y)) = bv (bs.set j y) := by
  simp [bv, List.map_set]
theorem OB.base {w0 wr : World} {g n cap : Nat} {bs : List UInt8} (h : OB w0 wr (.slice (some ⟨g, 0, none⟩) n cap) bs) : w0.heap.size ≤ g := own_base' h.1 g rfl
theorem OB.set {w0 wr : World} {g n cap : Nat} {bs : List UInt8} (h : OB w0 wr (.slice (some ⟨g, 0, none⟩) n cap) bs) (j : Nat) (y : UInt8) :
    OB w0 (wr.setCell ⟨g, j, none⟩ (.int .u8 (V8 y))) (.slice (some ⟨g, 0, none⟩) n cap) (bs.set j y) := by
  have hn := h.len
  subst hn
  obtain ⟨h1, h2⟩ := h.1.stored j (.int .u8 (V8 y))
  rw [bv_set] at h1
  refine ⟨by rw [List.length_set]; exact h1, h.2.grown h2 h.2.size fun k e => ?_⟩
  cases e; exact h.base
theorem OB.zeros {w0 w1 w2 : World} {n : Nat} {v : Value} (h : w2.ownsRow w1.heap.size 5 1 v n (List.replicate n (.int .u8 0))) (h0 : Below w0.heap.size w0 w1) (hb : Below w1.heap.size w1 w2) : OB w0 w2 v (List.replicate n 0) := by
  refine ⟨?_, below_then h0 h0.size hb⟩
  have e : bv (List.replicate n 0) = List.replicate n (.int .u8 0) := by simp [bv, V8]
  rw [e, List.length_replicate]; exact own_rebase h h0.size

def xorL (xa bs : List UInt8) : List UInt8 := List.zipWith (· ^^^ ·) xa bs
theorem set_fill (xs : List UInt8) (k n : Nat) (hk : k < n) (hl : xs.length = n) :
    (xs.take k ++ List.replicate (n - k) 0).set k (xs.getD k 0) = xs.take (k + 1) ++ List.replicate (n - (k + 1)) 0 := by
  apply List.ext_getElem?
  intro i
  rw [List.getElem?_set]
  have h1 : (xs.take k).length = k := by simp; omega
  have h2 : (xs.take (k + 1)).length = k + 1 := by simp; omega
  by_cases e : k = i
  · subst e
    rw [if_pos rfl, if_pos (by simp; omega), List.getElem?_append_left (by omega), List.getElem?_take, if_pos (by omega), List.getD_eq_getElem?_getD]
    rw [List.getElem?_eq_getElem (by omega)]; rfl
  · rw [if_neg e]
    by_cases h : i < k
    · rw [List.getElem?_append_left (by omega), List.getElem?_append_left (by omega), List.getElem?_take, List.getElem?_take, if_pos h, if_pos (by omega)]
    · rw [List.getElem?_append_right (by omega), List.getElem?_append_right (by omega), h1, h2, List.getElem?_replicate, List.getElem?_replicate]
      by_cases h3 : i < n
      · rw [if_pos (by omega), if_pos (by omega)]
      · rw [if_neg (by omega), if_neg (by omega)]
theorem xorL_at (xa bs : List UInt8) (k : Nat) (h1 : k < xa.length) (h2 : k < bs.length) : (xorL xa bs).getD k 0 = xa.getD k 0 ^^^ bs.getD k 0 := by
  simp [xorL, List.getD_eq_getElem?_getD, List.getElem?_zipWith, h1, h2]
theorem xorL_length (xa bs : List UInt8) (h : xa.length = bs.length) : (xorL xa bs).length = xa.length := by simp [xorL]; omega

set_option maxRecDepth 100000 in
set_option maxHeartbeats 1000000 in
theorem xor_any (w : World) (va vb : Value) (xa bs : List UInt8) (ha : Sl w va (bv xa)) (hb : Sl w vb (bv bs)) (n : Nat) (hla : xa.length = n) (hlb : bs.length = n) (hn : n ≤ 1000) :
    Calls Try.prog 98 #[va, vb] w fun e w' => ∃ r, e = .returned r ∧ OB w w' r (xorL xa bs) := by
  obtain ⟨aa, ca, rfl, ha1, ha2, ha3, hra⟩ := ha.openB
  obtain ⟨ab, cb, rfl, hb1, hb2, hb3, hrb⟩ := hb.openB
  have HA := Lib.hid (fun i h => hra.byte i h)
  have HB := Lib.hid (fun i h => hrb.byte i h)
  have HX := Lib.hid (fun k h1 h2 => xorL_at xa bs k h1 h2)
  have HF := Lib.hid (fun k h1 h2 => set_fill (xorL xa bs) k n h1 h2)
  have hxl := xorL_length xa bs (by omega)
  rw [hla] at hxl
  have HXL := Lib.hid hxl
  rw [hla] at HA HX ⊢
  rw [hlb] at HB HX ⊢
  clear ha hb hla hlb ha1 ha2 ha3 hb1 hb2 hb3 hra hrb hxl
  have hn' : (n : Int) ≤ 1000 := by omega
  go_enter Try.func98, Try.ntmps98
  go_wp2_with (with_reducible refine wpL_make _ rfl _ _ 22 5 _ 1 rfl Try.underlying22 inf5 rfl _ n (by omega) rfl rfl (by omega) (by omega) ?_; intro w2 hw2 hb2)
  have hO := OB.zeros hw2 (Below.refl _ w) hb2
  clear hw2 hb2
  go_loopw [6, 15] (fun _ i wr => ∃ (k : Nat) (zs : List UInt8), k ≤ n ∧ Hid (zs = (xorL xa bs).take k ++ List.replicate (n - k) 0) ∧ zs.length = n ∧ i = .int .i64 k ∧ OB w wr (.slice (some ⟨w.heap.size, 0, none⟩) n n) zs) (fun _ i _ => (n - intOf i).toNat)
  case atStart => exact ⟨0, _, by omega, rfl, by simp, rfl, by simpa using hO⟩
  case round =>
    obtain ⟨k, zs, hk, hzs, hzl, rfl, hOB⟩ := hrel
    by_cases hlt : k < n
    · have hlt' : (k : Int) < n := by omega
      obtain ⟨ga, oa, rfl, hca⟩ := HA.out k hlt
      obtain ⟨gb, ob, rfl, hcb⟩ := HB.out k hlt
      replace hca := (hOB.2.cell (World.block_lt_of_cell? _ _ hca)).trans hca
      replace hcb := (hOB.2.cell (World.block_lt_of_cell? _ _ hcb)).trans hcb
      have hx := HX.out k hlt hlt
      have hf := HF.out k hlt HXL.out
      rw [hx, ← hzs.out] at hf
      have hset := hOB.set k (xa.getD k 0 ^^^ bs.getD k 0)
      have hcz := hOB.cellB k (by omega)
      have hfz := hOB.frozenB k
      generalize xa.getD k 0 = x at *
      generalize bs.getD k 0 = y at *
      generalize zs.getD k 0 = z at *
      have HS := Lib.hid hset
      have Hf := Lib.hid hf
      clear hset hf hx hOB
      go_wp2
      go_still_tail 12, (by kernel_rfl)
      go_wp2
      go_roundw
      case rel => exact ⟨k + 1, _, by omega, Hf.out, by rw [List.length_set]; exact hzl, by go_num, HS.out.drewN 1⟩
      case measure => simp [intOf]; omega
    · obtain rfl : k = n := by omega
      have hz : Hid (zs = xorL xa bs) := by rw [Hid, hzs.out, List.take_of_length_le (by rw [HXL.out]; omega), Nat.sub_self]; simp
      rw [hz.out] at hOB
      clear hlt hk
      go_wp2
      go_ret
      exact ⟨_, rfl, hOB⟩
end Go.Proofs.Ytllnocffmlagjaa
