/- Contract of law04.square. Conditions: at least one row and column, at most 100. -/
import Derived.Test.YtllnocffmlagjaaY0
import Derived.StillTailTactics
set_option linter.unusedVariables false
namespace Go.Proofs.Ytllnocffmlagjaa
open Go.RowKit

def sqRow (b : List UInt8) (c i : Nat) : List UInt8 := (List.range c).map fun k => b.getD (i * c + k) 0
def squareL (b : List UInt8) (n c : Nat) : List (List UInt8) := (List.range n).map (sqRow b c)
theorem sqRow_length (b : List UInt8) (c i : Nat) : (sqRow b c i).length = c := by simp [sqRow]
theorem sqRow_at (b : List UInt8) (c i k : Nat) (h : k < c) : (sqRow b c i).getD k 0 = b.getD (i * c + k) 0 := by
  simp [sqRow, List.getD_eq_getElem?_getD, h]
theorem keep_fill (xs : List UInt8) (k n : Nat) (hk : k < n) (hl : xs.length = n) (h0 : xs.getD k 0 = 0) :
    xs.take k ++ List.replicate (n - k) 0 = xs.take (k + 1) ++ List.replicate (n - (k + 1)) 0 := by
  rw [List.take_succ_eq_append_getElem (by omega), show n - k = (n - (k + 1)) + 1 by omega, List.replicate_succ, List.append_assoc]
  rw [List.getD_eq_getElem?_getD, List.getElem?_eq_getElem (by omega)] at h0
  have h0' : xs[k] = 0 := h0
  rw [h0']; rfl
theorem grow_fill {α : Type} (f : Nat → α) (d : α) (k n : Nat) (hk : k < n) (u : α) :
    ((List.range k).map f ++ List.replicate (n - k) d).set k (f k) = (List.range (k + 1)).map f ++ List.replicate (n - (k + 1)) d := by
  rw [show n - k = (n - (k + 1)) + 1 by omega, List.replicate_succ, List.set_append_right _ _ (by simp)]
  simp [List.range_succ]

set_option maxRecDepth 100000 in
set_option maxHeartbeats 2000000 in
theorem square_any (w : World) (v : Value) (bs : List UInt8) (n c : Nat) (hv : Sl w v (bv bs)) (h1 : 1 ≤ n) (hn : n ≤ 100) (h1c : 1 ≤ c) (hc : c ≤ 100) :
    Calls Try.prog 18 #[v, .int .i64 n, .int .i64 c] w fun e w' => ∃ lv vs, e = .returned lv ∧ OR w w' lv vs (squareL bs n c) := by
  obtain ⟨aa, ca, rfl, hm1, hm2, _, hr⟩ := hv.openB
  have hlb : bs.length ≤ 9223372036854775807 := Nat.le_trans hm1 hm2
  have HB := Lib.hid (fun i h => hr.byte i h)
  have hn' : (n : Int) ≤ 100 := by omega
  have hc' : (c : Int) ≤ 100 := by omega
  have h1c' : (1 : Int) ≤ c := by omega
  obtain ⟨l, hl⟩ : ∃ l, bs.length = l := ⟨_, rfl⟩
  rw [hl] at HB hlb ⊢
  have HL := Lib.hid hl
  clear hv hm1 hm2 hr hl
  go_enter Try.func18, Try.ntmps18
  go_wp2_with (with_reducible refine wpL_make _ rfl _ _ 27 22 _ 24 rfl Try.underlying27 inf22 rfl _ n (by omega) rfl rfl (by omega) (by omega) ?_; intro w2 hw2 hb2)
  have hO := OR.new w n hw2 hb2
  clear hw2 hb2
  go_loopw [8, 15] (fun _ i wr => ∃ (k : Nat) (vs : List Value) (rows : List (List UInt8)), k ≤ n ∧ Hid (rows = (List.range k).map (sqRow bs c) ++ List.replicate (n - k) []) ∧ i = .int .i64 k ∧ OR w wr (.slice (some ⟨w.heap.size, 0, none⟩) n n) vs rows) (fun _ i _ => (n - intOf i).toNat)
  case atStart => exact ⟨0, _, _, by omega, rfl, rfl, hO⟩
  case round =>
    obtain ⟨k, vs, rows, hk, hrows, rfl, hOR⟩ := hrel
    by_cases hlt : k < n
    · have hlt' : (k : Int) < n := by omega
      have hrl : rows.length = n := by rw [hrows.out]; simp; omega
      have hvl : vs.length = n := hOR.len.trans hrl
      obtain ⟨g, hg, cz, fz, _, _⟩ := hOR.at k (by omega)
      cases hg
      have HOR := Lib.hid hOR
      have HR := Lib.hid (show rows.set k (sqRow bs c k) = (List.range (k + 1)).map (sqRow bs c) ++ List.replicate (n - (k + 1)) [] by rw [hrows.out]; exact grow_fill (sqRow bs c) [] k n hlt [])
      have Hk := Lib.hid (show k + 1 ≤ n from hlt)
      have HK := Lib.hid hlt
      have HRL := Lib.hid hrl
      have HVL := Lib.hid hvl
      obtain ⟨M, hM⟩ : ∃ M, k * c = M := ⟨_, rfl⟩
      have hMi : (k : Int) * (c : Int) = M := by rw [← hM]; simp
      have hMle : M ≤ 10000 := by rw [← hM]; exact Nat.mul_le_mul (show k ≤ 100 by omega) hc
      have hMle' : (M : Int) ≤ 10000 := by omega
      have HX := Lib.hid (fun j (h : j < c) => (show (sqRow bs c k).getD j 0 = bs.getD (M + j) 0 by rw [sqRow_at bs c k j h, hM]))
      clear hOR hrl hvl hlt hk hM hMle
      go_wp2_with (with_reducible refine wpL_make _ rfl _ _ 22 5 _ 1 rfl Try.underlying22 inf5 rfl _ c (by omega) rfl rfl (by omega) (by omega) ?_; intro w3 hw3 hb3; have hO3 := OB.zeros hw3 (Below.refl _ wr) hb3; replace cz := (hb3.cell (World.block_lt_of_cell? _ _ cz)).trans cz; replace fz := ((HOR.out.later hb3).at k (by have := HRL.out; have := HK.out; omega)); obtain ⟨g4, hg4, cz4, fz4, _, _⟩ := fz; cases hg4)
      have hput := HOR.out.put k (by have := HRL.out; have := HK.out; omega) hO3
      have HVk := Lib.hid (getD_set_eq vs k (.slice (some ⟨wr.heap.size, 0, none⟩) c c) undef (by have := HVL.out; have := HK.out; omega))
      have HSQ := Lib.hid (sqRow_length bs c k)
      clear cz4 fz4 cz hO3 hb3
      generalize wr.heap.size = X at *
      generalize hVS : vs.set k (.slice (some ⟨X, 0, none⟩) c c) = VS at *
      generalize sqRow bs c k = R at *
      go_loopw [9, 10, 28] (fun _ _ j wq => ∃ (q : Nat) (rws : List (List UInt8)), q ≤ c ∧ j = .int .i64 q ∧ Hid (rws = rows.set k (R.take q ++ List.replicate (c - q) 0)) ∧ OR w wq (.slice (some ⟨w.heap.size, 0, none⟩) n n) VS rws) (fun _ _ j _ => (c - intOf j).toNat)
      case atStart => exact ⟨0, _, by omega, rfl, rfl, by simpa using hput⟩
      case round =>
        obtain ⟨q, rws, hq, rfl, hrws, hOR⟩ := hrel
        by_cases hql : q < c
        · have hql' : (q : Int) < c := by omega
          have hk : k < rws.length := by rw [hrws.out, List.length_set, HRL.out]; exact HK.out
          have hrk : rws.getD k [] = R.take q ++ List.replicate (c - q) 0 := by rw [hrws.out]; exact getD_set_eq _ _ _ _ (by rw [HRL.out]; exact HK.out)
          have hlk : (rws.getD k []).length = c := by rw [hrk, List.length_append, List.length_take, HSQ.out, List.length_replicate]; omega
          obtain ⟨g, hg, cz, _, _, _⟩ := hOR.at k hk
          cases hg
          rw [HVk.out] at cz
          have hel := hOR.el k hk
          rw [HVk.out, hlk] at hel
          obtain ⟨ci, fi⟩ := row_at hel q hql
          have hset := fun y => hOR.setAt k hk HVk.out q y
          have HOR2 := Lib.hid hOR
          have hx := HX.out q hql
          have Hq := Lib.hid (show q + 1 ≤ c from hql)
          obtain ⟨T, hT⟩ : ∃ T, M + q = T := ⟨_, rfl⟩
          have hTi : (M : Int) + (q : Int) = T := by omega
          have hTle : (T : Int) ≤ 10200 := by omega
          rw [hT] at hx
          by_cases hat : T < l
          · have hat' : (T : Int) < l := by omega
            obtain ⟨gb, ob, rfl, hcb⟩ := HB.out T hat
            replace hcb := (hOR.below.cell (World.block_lt_of_cell? _ _ hcb)).trans hcb
            have HSt := Lib.hid (hset (bs.getD T 0))
            have HR2 := Lib.hid (show rws.set k ((rws.getD k []).set q (bs.getD T 0)) = rows.set k (R.take (q + 1) ++ List.replicate (c - (q + 1)) 0) by
              rw [hrk, ← hx, set_fill R q c hql HSQ.out, hrws.out, List.set_set])
            generalize bs.getD T 0 = y at *
            generalize (rws.getD k []).getD q 0 = z at *
            clear hset hOR hel hk hrk hlk hx hql hq hT hat
            go_wp2
            go_still_tail 10, (by kernel_rfl)
            go_wp2
            go_roundw
            case rel => exact ⟨q + 1, _, Hq.out, by go_num, HR2.out, HSt.out.drewN 1⟩
            case measure => have := Hq.out; simp [intOf]; omega
          · have hat' : ¬ ((T : Int) < l) := by omega
            have hy0 : bs.getD T 0 = 0 := by rw [List.getD_eq_getElem?_getD, List.getElem?_eq_none (by rw [HL.out]; omega)]; rfl
            rw [hy0] at hx
            have HR2 := Lib.hid (show rws = rows.set k (R.take (q + 1) ++ List.replicate (c - (q + 1)) 0) by
              rw [hrws.out, keep_fill R q c hql HSQ.out hx])
            clear hset hOR hel hk hrk hlk hx hql hq hy0 hT hat
            go_wp2
            go_roundw
            case rel => exact ⟨q + 1, _, Hq.out, by go_num, HR2.out, HOR2.out⟩
            case measure => have := Hq.out; simp [intOf]; omega
        · obtain rfl : q = c := by omega
          have hrf : Hid (rws = rows.set k R) := by rw [Hid, hrws.out, List.take_of_length_le (by rw [HSQ.out]; omega), Nat.sub_self]; simp
          have hfin : Hid (rws = (List.range (k + 1)).map (sqRow bs q) ++ List.replicate (n - (k + 1)) []) := by rw [Hid, hrf.out]; exact HR.out
          clear hql hq
          go_wp2
          go_roundw
          case rel => exact ⟨k + 1, _, _, Hk.out, hfin.out, by go_num, hOR⟩
          case measure => have := Hk.out; simp [intOf]; omega
    · obtain rfl : k = n := by omega
      have hz : Hid (rows = squareL bs k c) := by rw [Hid, hrows.out, Nat.sub_self]; simp [squareL]
      rw [hz.out] at hOR
      clear hlt hk
      go_wp2
      go_ret
      exact ⟨_, _, rfl, hOR⟩
end Go.Proofs.Ytllnocffmlagjaa
