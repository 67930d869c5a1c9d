/- Contracts of hash.constants and hash.first. Conditions: none. -/
import Derived.Test.YtllnocffmlagjaaH0
set_option linter.unusedVariables false
namespace Go.Proofs.Ytllnocffmlagjaa
open Go.RowKit

def kc : List UInt32 := [
  0x428a2f98, 0x71374491, 0xb5c0fbcf, 0xe9b5dba5, 0x3956c25b, 0x59f111f1, 0x923f82a4, 0xab1c5ed5,
  0xd807aa98, 0x12835b01, 0x243185be, 0x550c7dc3, 0x72be5d74, 0x80deb1fe, 0x9bdc06a7, 0xc19bf174,
  0xe49b69c1, 0xefbe4786, 0x0fc19dc6, 0x240ca1cc, 0x2de92c6f, 0x4a7484aa, 0x5cb0a9dc, 0x76f988da,
  0x983e5152, 0xa831c66d, 0xb00327c8, 0xbf597fc7, 0xc6e00bf3, 0xd5a79147, 0x06ca6351, 0x14292967,
  0x27b70a85, 0x2e1b2138, 0x4d2c6dfc, 0x53380d13, 0x650a7354, 0x766a0abb, 0x81c2c92e, 0x92722c85,
  0xa2bfe8a1, 0xa81a664b, 0xc24b8b70, 0xc76c51a3, 0xd192e819, 0xd6990624, 0xf40e3585, 0x106aa070,
  0x19a4c116, 0x1e376c08, 0x2748774c, 0x34b0bcb5, 0x391c0cb3, 0x4ed8aa4a, 0x5b9cca4f, 0x682e6ff3,
  0x748f82ee, 0x78a5636f, 0x84c87814, 0x8cc70208, 0x90befffa, 0xa4506ceb, 0xbef9a3f7, 0xc67178f2]
def hc : List UInt32 := [0x6a09e667, 0xbb67ae85, 0x3c6ef372, 0xa54ff53a, 0x510e527f, 0x9b05688c, 0x1f83d9ab, 0x5be0cd19]
def arr8 (l : List UInt32) : Array Value := (wv l).toArray

section
variable {P : Program} {ops : Array Oper} {rest : List Oper} {o : Oper} {a : Act} {w : World} {Q : Exit → Act → World → Prop}
theorem wpL_build (hgd : o.guard = none) (t : TypeId) (parts : Array (Nat × Operand)) (ho : o.op = .build t parts) (v : Value) (h : (Instr.build t (parts.map fun (i, x) => (i, a.eval x))).run P w = .ok v w)
    (hK : wpList P ops Q rest (a.put o.dst v) w) : wpList P ops Q (o :: rest) a w :=
  wpList_plain hgd fun _ hK' => by
    unfold Oper.wp execOp
    simp only [ho, Sem.run_bind, Sem.run_pure, Result.andThen_ok, h]
    exact hK' _ _ hK
end
theorem inf80 (n : Nat) (h : n = 64) : (Try.prog.info? 80).map (·.size) = some n := by subst h; kernel_rfl
theorem inf74 (n : Nat) (h : n = 8) : (Try.prog.info? 74).map (·.size) = some n := by subst h; kernel_rfl
theorem wv_one (l : List UInt32) : ∀ u ∈ (arr8 l).toList, u.oneCell' = true := by
  intro u hu
  simp only [arr8, wv, List.mem_map] at hu
  obtain ⟨x, _, rfl⟩ := hu
  rfl
set_option maxHeartbeats 400000 in
theorem first_any (w : World) : Calls Try.prog 51 #[] w fun e w' => e = .returned (.agg (arr8 hc)) ∧ Below w.heap.size w w' := by
  go_enter Try.func51, Try.ntmps51
  go_wp2_with (first
    | (with_reducible refine wpL_build rfl 74 _ rfl (.agg (arr8 hc)) (by kernel_rfl) ?_)
    | (with_reducible refine wpL_storeRow rfl 74 _ _ rfl w.heap.size rfl (arr8 hc) rfl 74 _ (heap_alloc_new w _) (by kernel_rfl) (inf74 _ (by kernel_rfl)) (wv_one _) ?_))
  have HR2 := fun cs => setRow_heap (w.alloc (.cells cs 74)) w.heap.size cs (arr8 hc) 74 (0, 0) (heap_alloc_new w _)
  have HB2 := fun cs => below_setRow ((Below.refl _ w).alloc (Nat.le_refl _) (.cells cs 74)) (Nat.le_refl w.heap.size) (arr8 hc)
  have hres : ∀ (tmps cs : Array Value), tmps.getD 0 undef = .pointer (some ⟨w.heap.size, 0, none⟩) → (results Try.f51 tmps).run Try.prog ((w.alloc (.cells cs 74)).setRow w.heap.size (arr8 hc)) = .ok (.agg (arr8 hc)) _ :=
    fun tmps cs ht => results_cell_row Try.results51 tmps _ w.heap.size 74 (arr8 hc) (0, 0) (.array 8 72) ht (HR2 cs) Try.underlying74 rfl (inf74 _ (by kernel_rfl))
  exact bodyPost_ret (hres _ _ rfl) rfl ⟨rfl, HB2 _⟩

theorem kc_len : (arr64 kc).size = 64 := by kernel_rfl
set_option maxHeartbeats 400000 in
theorem constants_any (w : World) : Calls Try.prog 88 #[] w fun e w' => e = .returned (.agg (arr64 kc)) ∧ Below w.heap.size w w' := by
  go_enter Try.func88, Try.ntmps88
  go_wp2_with (first
    | (with_reducible refine wpL_build rfl 80 _ rfl (.agg (arr64 kc)) (by kernel_rfl) ?_)
    | (with_reducible refine wpL_storeRow rfl 80 _ _ rfl w.heap.size rfl (arr64 kc) rfl 80 _ (heap_alloc_new w _) (by kernel_rfl) (inf80 _ kc_len) (arr64_one _) ?_))
  have HR2 := fun cs => setRow_heap (w.alloc (.cells cs 80)) w.heap.size cs (arr64 kc) 80 (0, 0) (heap_alloc_new w _)
  have HB2 := fun cs => below_setRow ((Below.refl _ w).alloc (Nat.le_refl _) (.cells cs 80)) (Nat.le_refl w.heap.size) (arr64 kc)
  have hres : ∀ (tmps cs : Array Value), tmps.getD 0 undef = .pointer (some ⟨w.heap.size, 0, none⟩) → (results Try.f88 tmps).run Try.prog ((w.alloc (.cells cs 80)).setRow w.heap.size (arr64 kc)) = .ok (.agg (arr64 kc)) _ :=
    fun tmps cs ht => results_cell_row Try.results88 tmps _ w.heap.size 80 (arr64 kc) (0, 0) (.array 64 72) ht (HR2 cs) Try.underlying80 rfl (inf80 _ kc_len)
  exact bodyPost_ret (hres _ _ rfl) rfl ⟨rfl, HB2 _⟩
end Go.Proofs.Ytllnocffmlagjaa
