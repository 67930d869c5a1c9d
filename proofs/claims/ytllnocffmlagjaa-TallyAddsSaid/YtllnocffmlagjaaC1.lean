/- Contracts of slices.Chunk on byte slices (by 64) and of its iterator. Conditions: each theorem names its own. -/
import Derived.RangeFuncNested
import Derived.RangeFuncBox
import Derived.RangeFuncCalls
import Derived.RangeFuncLeaves
import Derived.RangeFuncWrites
import Derived.Shelf.Abstract
import Derived.Shelf.RegionOpen
import Derived.WalkKit
import Derived.OwnWalkIn
import Derived.TacticsInMore
import Derived.LoopNIn
import Derived.LoopIn
import Derived.Test.YtllnocffmlagjaaC0
set_option linter.unusedVariables false
namespace Go.Proofs.Ytllnocffmlagjaa
open Go.RowKit Go.Shelf
attribute [local go_sem] Oper.semAt_some

theorem chunk_any (w : World) (a : Option Addr) (len cap : Nat) :
    Calls Try.prog 52 #[.slice a len cap, .int .i64 64] w fun e w' => e = .returned (.func (.func 86) #[] #[.pointer (some ⟨w.heap.size, 0, none⟩), .pointer (some ⟨w.heap.size + 1, 0, none⟩)]) ∧
      w' = (w.alloc (.cells #[.slice a len cap] 22)).alloc (.cells #[.int .i64 64] 3) := by
  go_enter Try.func52, Try.ntmps52
  go_wp2
  go_ret
  exact ⟨rfl, by simp⟩

/-- What the iterator asks of a round: its two boxes lie as they lay. -/
def KB (Bs Bn : Nat) (W W' : World) : Prop := W'.heap[Bs]? = W.heap[Bs]? ∧ W'.heap[Bn]? = W.heap[Bn]?
theorem KB.trans {Bs Bn : Nat} {A B C : World} (h : KB Bs Bn A B) (k : KB Bs Bn B C) : KB Bs Bn A C := ⟨k.1.trans h.1, k.2.trans h.2⟩

theorem finRange_snoc (n k : Nat) (h : k < n) : (List.finRange n).take (k + 1) = (List.finRange n).take k ++ [⟨k, h⟩] := by
  rw [List.take_succ_eq_append_getElem (by simpa using h)]; simp
theorem finRange_vals (n : Nat) : (List.finRange n).map (·.val) = List.range n := by
  apply List.ext_getElem <;> simp

set_option maxRecDepth 100000 in
set_option maxHeartbeats 2000000 in
theorem chunk1_in (m l Bs Bn b o len cap n : Nat) (hm : 1 ≤ m) (hlen : Hid (len = 64 * n)) (hcap : len ≤ cap) (hmax : cap ≤ 9223372036854775807) (hlm : len ≤ 140737488355328) (J Jx : List (Fin n) → World → Prop)
    (hY : ∀ pre x W, J pre W → pre.length < n → YieldAt Fence.wide (m - 1) Try.prog l #[.slice (some ⟨b, o + 64 * x.val, none⟩) 64 64] W fun e W' =>
      (e = .returned (.bool true) ∧ J (pre ++ [x]) W' ∧ KB Bs Bn W W') ∨ (e = .returned (.bool false) ∧ Jx (pre ++ [x]) W'))
    (W : World) (hBs : W.heap[Bs]? = some (.cells #[.slice (some ⟨b, o, none⟩) len cap] 22 (0, 0))) (hBn : W.heap[Bn]? = some (.cells #[.int .i64 64] 3 (0, 0))) (hJ : ∀ pre W' , J pre W' → J pre W'.drew) (h0 : J [] W) :
    CallsIn Fence.wide m Try.prog 86 #[.func (.yield l) #[] #[], .pointer (some ⟨Bs, 0, none⟩), .pointer (some ⟨Bn, 0, none⟩)] W fun e W' => (∃ v, e = .returned v) ∧
      ((∃ ys, ys = List.finRange n ∧ J ys W') ∨ (∃ pre, (∃ k, k ≤ n ∧ pre = (List.finRange n).take k) ∧ Jx pre W')) := by
  refine callsIn_of_wp Try.func86 rfl trivial ?_ rfl
  simp only [Try.ntmps86, List.size_toArray, List.length_cons, List.length_nil, Nat.reduceAdd, Nat.reduceSub, Array.replicate_succ, Array.replicate_zero, List.push_toArray, List.append_toArray, List.nil_append, List.cons_append]
  gi_wp2
  gi_loopw [4, 5, 6, 7, 8] (fun i _ _ _ _ wr => ∃ k : Nat, k ≤ n ∧ i = .int .i64 ((64 * k : Nat) : Int) ∧ J ((List.finRange n).take k) wr ∧ KB Bs Bn W wr)
    (fun i _ _ _ _ _ => len - (intOf i).toNat)
  case atStart => exact ⟨0, Nat.zero_le _, rfl, h0, rfl, rfl⟩
  case round =>
    obtain ⟨k, hk, rfl, hJs, hnx⟩ := hrel
    have hcs : wr.cell? ⟨Bs, 0, none⟩ = some (.slice (some ⟨b, o, none⟩) len cap) := (cell_of_row wr Bs 0 _ _ _ (hnx.1.trans hBs)).trans rfl
    have hcn : wr.cell? ⟨Bn, 0, none⟩ = some (.int .i64 64) := (cell_of_row wr Bn 0 _ _ _ (hnx.2.trans hBn)).trans rfl
    by_cases hlt : k < n
    · have hl := hlen.out
      obtain ⟨K, hK⟩ : ∃ K : Int, ((64 * k : Nat) : Int) = K := ⟨_, rfl⟩
      rw [hK]
      have k0 : 0 ≤ K := by omega
      have k1 : K < len := by omega
      have k2 : K + 64 ≤ len := by omega
      have k3 : K ≤ 140737488355328 := by omega
      have hK' : Hid (((64 * (k + 1) : Nat) : Int) = K + 64) := by rw [Hid, ← hK]; omega
      have hn' : Hid (64 * k + 64 ≤ len) := by rw [Hid]; omega
      obtain ⟨fn, tmps, assign, body, hy, hR⟩ := hY _ ⟨k, hlt⟩ wr.drew (hJ _ _ hJs) (by rw [List.length_take, List.length_finRange]; omega)
      dsimp only at hy
      rw [← finRange_snoc] at hR
      rw [show o + 64 * k = o + K.toNat by omega, show (64 : Nat) = (K + 64).toNat - K.toNat by omega] at hy
      have hk1 : Hid (k + 1 ≤ n) := by rw [Hid]; omega
      clear hK
      clear hl hY hlt hk
      gi_wp2
      gi_region
      gi_wp2
      refine hR.mono ?_
      rintro e W3 (⟨rfl, hJ3, hk3⟩ | ⟨rfl, hJx3⟩)
      · have hcn3 : W3.cell? ⟨Bn, 0, none⟩ = some (.int .i64 64) := (cell_of_row W3 Bn 0 _ _ _ (hk3.2.trans (hnx.2.trans hBn))).trans rfl
        gi_wp2
        go_roundw
        case rel => exact ⟨k + 1, hk1.out, by rw [hK'.out], hJ3, hnx.trans hk3⟩
        case measure => simp [intOf]; omega
      · gi_wp2
        refine bodyPost_ret (results_none rfl _ _ _) rfl ?_
        exact ⟨⟨_, rfl⟩, .inr ⟨_, ⟨k + 1, hk1.out, rfl⟩, hJx3⟩⟩
    · obtain rfl : k = n := by omega
      have hl := hlen.out
      have hl' : ((64 * k : Nat) : Int) = len := by omega
      rw [hl']
      clear hlt hk hl hl' hY
      gi_wp2
      go_end0
      exact ⟨⟨_, rfl⟩, .inl ⟨_, List.take_of_length_le (by simp), hJs⟩⟩

theorem chunk_stops (m Bs Bn b o len cap n : Nat) (hm : 1 ≤ m) (hlen : len = 64 * n) (hcap : len ≤ cap) (hmax : cap ≤ 9223372036854775807) (hlm : len ≤ 140737488355328) (w : World) (hs : Bs < w.heap.size) (hn : Bn < w.heap.size)
    (hBs : w.heap[Bs]? = some (.cells #[.slice (some ⟨b, o, none⟩) len cap] 22 (0, 0))) (hBn : w.heap[Bn]? = some (.cells #[.int .i64 64] 3 (0, 0))) :
    SeqStopsK Fence.wide m Try.prog 86 #[.pointer (some ⟨Bs, 0, none⟩), .pointer (some ⟨Bn, 0, none⟩)] (fun x : Fin n => #[Value.slice (some ⟨b, o + 64 * x.val, none⟩) 64 64]) (KB Bs Bn)
      (fun ys => ys = List.finRange n) (fun pre => ∃ k, k ≤ n ∧ pre = (List.finRange n).take k) n w := fun l J Jx W hW hJ _ hY h0 =>
  chunk1_in m l Bs Bn b o len cap n hm hlen hcap hmax hlm J Jx hY W ((hW.block Bs hs).trans hBs) ((hW.block Bn hn).trans hBn)
    (fun pre W' h => hJ pre W' _ none h ⟨rfl, rfl, rfl, Nat.le_refl _, fun _ _ _ => rfl⟩ (fun r e => by cases e)) h0
end Go.Proofs.Ytllnocffmlagjaa
