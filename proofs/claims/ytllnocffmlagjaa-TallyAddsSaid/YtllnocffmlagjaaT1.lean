/- Contracts of tally.item, tally.both, ref32.Item, ref32.Both. Conditions: lengths within memory. -/
import Derived.Test.YtllnocffmlagjaaT0
set_option linter.unusedVariables false
namespace Go.Proofs.Ytllnocffmlagjaa
open Go.RowKit

def leafH (b : List UInt8) : List UInt8 := sha (0 :: b)
def bothH (xa xb : List UInt8) : List UInt8 := sha (1 :: (xa ++ xb))

theorem two_lit (w : World) (x : UInt8) (v : Value) (b : List UInt8) (hv : Sl w v (bv b)) (hl : b.length ≤ 1000000) :
    Calls Try.prog 13 #[.slice (some ⟨w.heap.size + 1, 0, none⟩) 2 2] ((w.alloc (.cells #[.int .u8 (V8 x)] 5)).alloc (.cells #[.slice (some ⟨w.heap.size, 0, none⟩) 1 1, v] 22)) fun e w' => ∃ r, e = .returned r ∧ OB w w' r (sha (x :: b)) := by
  have hb1 : Below w.heap.size w (w.alloc (.cells #[.int .u8 (V8 x)] 5)) := (Below.refl _ w).alloc (Nat.le_refl _) _
  have hs := Sl_new w 5 (bv [x]) (by simp [bv, maxLen])
  have hp := Parts.two _ _ _ [x] b hs (hv.below hb1)
  have hb2 : Below w.heap.size w ((w.alloc (.cells (bv [x]).toArray 5)).alloc (.cells #[.slice (some ⟨w.heap.size, 0, none⟩) (bv [x]).length (bv [x]).length, v] 22)) := hb1.alloc hb1.size _
  rw [World.size_alloc] at hp
  refine (sum_any _ _ _ hp (by simp; omega) (by simp)).mono fun e w' ⟨r, he, ho⟩ => ⟨r, he, ?_⟩
  have e1 : [[x], b].flatten = x :: b := by simp
  rw [e1] at ho
  exact ⟨own_rebase ho.1 hb2.size, hb2.trans (ho.2.mono hb2.size)⟩
theorem Parts.three (W : World) (u v t : Value) (xa bs cs : List UInt8) (h : Sl W u (bv xa)) (h' : Sl W v (bv bs)) (h'' : Sl W t (bv cs)) : Parts (W.alloc (.cells #[u, v, t] 22)) (.slice (some ⟨W.heap.size, 0, none⟩) 3 3) [xa, bs, cs] := by
  refine ⟨[u, v, t], Sl_new W 22 [u, v, t] (by simp [maxLen]), rfl, fun i hi => ?_⟩
  have hb : Below W.heap.size W (W.alloc (.cells #[u, v, t] 22)) := (Below.refl _ W).alloc (Nat.le_refl _) _
  match i with
  | 0 => exact h.below hb
  | 1 => exact h'.below hb
  | 2 => exact h''.below hb
  | i + 3 => simp at hi; omega
theorem three_lit (w : World) (x : UInt8) (u v : Value) (xa b : List UInt8) (hu : Sl w u (bv xa)) (hv : Sl w v (bv b)) (hl : xa.length + b.length ≤ 1000000) :
    Calls Try.prog 13 #[.slice (some ⟨w.heap.size + 1, 0, none⟩) 3 3] ((w.alloc (.cells #[.int .u8 (V8 x)] 5)).alloc (.cells #[.slice (some ⟨w.heap.size, 0, none⟩) 1 1, u, v] 22)) fun e w' => ∃ r, e = .returned r ∧ OB w w' r (sha (x :: (xa ++ b))) := by
  have hb1 : Below w.heap.size w (w.alloc (.cells #[.int .u8 (V8 x)] 5)) := (Below.refl _ w).alloc (Nat.le_refl _) _
  have hs := Sl_new w 5 (bv [x]) (by simp [bv, maxLen])
  have hp := Parts.three _ _ _ _ [x] xa b hs (hu.below hb1) (hv.below hb1)
  have hb2 : Below w.heap.size w ((w.alloc (.cells (bv [x]).toArray 5)).alloc (.cells #[.slice (some ⟨w.heap.size, 0, none⟩) (bv [x]).length (bv [x]).length, u, v] 22)) := hb1.alloc hb1.size _
  rw [World.size_alloc] at hp
  refine (sum_any _ _ _ hp (by simp; omega) (by simp)).mono fun e w' ⟨r, he, ho⟩ => ⟨r, he, ?_⟩
  have e1 : [[x], xa, b].flatten = x :: (xa ++ b) := by simp
  rw [e1] at ho
  exact ⟨own_rebase ho.1 hb2.size, hb2.trans (ho.2.mono hb2.size)⟩

set_option maxHeartbeats 1000000 in
theorem item_any (w : World) (v : Value) (b : List UInt8) (hv : Sl w v (bv b)) (hl : b.length ≤ 1000000) :
    Calls Try.prog 67 #[v] w fun e w' => ∃ r, e = .returned r ∧ OB w w' r (leafH b) := by
  have hc := two_lit w 0 v b hv hl
  rw [show V8 0 = 0 from rfl] at hc
  obtain ⟨a, c, rfl, _, _, _, _⟩ := hv.openB
  unfold leafH
  clear hv hl
  go_enter Try.func67, Try.ntmps67
  go_wp2_with (go_at_call 13; refine hc.mono ?_; rintro e w1 ⟨r, rfl, hO⟩; clear hc)
  go_ret
  exact ⟨_, rfl, hO⟩
set_option maxHeartbeats 1000000 in
theorem both_any (w : World) (u v : Value) (xa b : List UInt8) (hu : Sl w u (bv xa)) (hv : Sl w v (bv b)) (hl : xa.length + b.length ≤ 1000000) :
    Calls Try.prog 69 #[u, v] w fun e w' => ∃ r, e = .returned r ∧ OB w w' r (bothH xa b) := by
  have hc := three_lit w 1 u v xa b hu hv hl
  rw [show V8 1 = 1 from rfl] at hc
  obtain ⟨a, c, rfl, _, _, _, _⟩ := hv.openB
  obtain ⟨a', c', rfl, _, _, _, _⟩ := hu.openB
  unfold bothH
  clear hv hl hu
  go_enter Try.func69, Try.ntmps69
  go_wp2_with (go_at_call 13; refine hc.mono ?_; rintro e w1 ⟨r, rfl, hO⟩; clear hc)
  go_ret
  exact ⟨_, rfl, hO⟩
theorem OB.new1 (W : World) (x : UInt8) : OB W (W.alloc (.cells #[.int .u8 (V8 x)] 5)) (.slice (some ⟨W.heap.size, 0, none⟩) 1 1) [x] :=
  ⟨own_new W W.heap.size 5 (bv [x]) (by simp [bv, maxLen]) (Nat.le_refl _), (Below.refl _ W).alloc (Nat.le_refl _) _⟩
set_option maxHeartbeats 1000000 in
theorem ritem_any (w : World) (v : Value) (b : List UInt8) (hv : Sl w v (bv b)) (hl : b.length ≤ 1000000) :
    Calls Try.prog 70 #[v] w fun e w' => ∃ r, e = .returned r ∧ OB w w' r (leafH b) := by
  have HO := Lib.hid (OB.new1 w 0)
  have HV := Lib.hid (hv.below (OB.new1 w 0).2)
  rw [show V8 0 = 0 from rfl] at HO HV
  obtain ⟨a, c, rfl, _, _, _, _⟩ := hv.openB
  unfold leafH
  obtain ⟨n, hn⟩ : ∃ n, b.length = n := ⟨_, rfl⟩
  rw [hn] at hl HV ⊢
  have HN := Lib.hid hn
  clear hv hn
  go_enter Try.func70, Try.ntmps70
  go_wp2_with (first
    | (at_builtin; refine wpL_cat w _ rfl _ _ rfl _ _ rfl HO.out _ _ rfl HV.out (1 + n) (by rw [HN.out]; rfl) (by omega) ?_; intro A2 c2 w2 hO2)
    | (go_at_call 14; refine (rsum_any w2 _ _ hO2.sl (by have := HN.out; simp; omega)).mono ?_; rintro e w3 ⟨r, rfl, hO⟩))
  go_ret
  exact ⟨_, rfl, own_rebase hO.1 hO2.2.size, below_then hO2.2 hO2.2.size hO.2⟩
set_option maxHeartbeats 1000000 in
theorem rboth_any (w : World) (u v : Value) (xa b : List UInt8) (hu : Sl w u (bv xa)) (hv : Sl w v (bv b)) (hl : xa.length + b.length ≤ 1000000) :
    Calls Try.prog 72 #[u, v] w fun e w' => ∃ r, e = .returned r ∧ OB w w' r (bothH xa b) := by
  have HO := Lib.hid (OB.new1 w 1)
  have HU := Lib.hid (hu.below (OB.new1 w 1).2)
  have HV := Lib.hid hv
  rw [show V8 1 = 1 from rfl] at HO HU
  obtain ⟨a, c, rfl, _, _, _, _⟩ := hv.openB
  obtain ⟨a', c', rfl, _, _, _, _⟩ := hu.openB
  unfold bothH
  obtain ⟨n, hn⟩ : ∃ n, b.length = n := ⟨_, rfl⟩
  obtain ⟨m, hm⟩ : ∃ n, xa.length = n := ⟨_, rfl⟩
  rw [hn] at hl HV ⊢
  rw [hm] at hl HU ⊢
  have HN := Lib.hid hn
  have HM := Lib.hid hm
  clear hv hn hm hu
  go_enter Try.func72, Try.ntmps72
  go_wp2_with (first
    | (go_at_call 14; refine (rsum_any w3 _ _ hO3.sl (by have := HN.out; have := HM.out; simp; omega)).mono ?_; rintro e w4 ⟨r, rfl, hO⟩)
    | (at_builtin; refine wpL_cat w _ rfl _ _ rfl _ _ rfl hO2 _ _ rfl (HV.out.below hO2.2) (1 + m + n) (by rw [HN.out]; simp [HM.out]; omega) (by omega) ?_; intro A3 c3 w3 hO3)
    | (at_builtin; refine wpL_cat w _ rfl _ _ rfl _ _ rfl HO.out _ _ rfl HU.out (1 + m) (by rw [HM.out]; rfl) (by omega) ?_; intro A2 c2 w2 hO2))
  go_ret
  exact ⟨_, rfl, own_rebase hO.1 hO3.2.size, below_then hO3.2 hO3.2.size hO.2⟩
end Go.Proofs.Ytllnocffmlagjaa
