/- Contracts of slices.Clone of rows, slices.IndexFunc with matrix.reduce's closure. Conditions: rows of bytes; each theorem names its own. -/
import Derived.Test.YtllnocffmlagjaaY5
set_option linter.unusedVariables false
set_option linter.unusedSimpArgs false
namespace Go.Proofs.Ytllnocffmlagjaa
open Go.RowKit
attribute [local go_sem] flowAt flowUpon v8_xor

/-- The row that was written, if any, is none of bytes. -/
def Not5 (w : World) (row : Option Nat) : Prop := ∀ g, row = some g → ∃ cs t m, w.heap[g]? = some (.cells cs t m) ∧ t ≠ 5
theorem Not5.one {w : World} {G : Nat} {cs : Array Value} {t : TypeId} {m : Nat × Nat} (hG : w.heap[G]? = some (.cells cs t m)) (ht : t ≠ 5) : Not5 w (some G) := fun g e => by cases e; exact ⟨cs, t, m, hG, ht⟩
theorem Sl.stays {w w' : World} {row : Option Nat} (hG : Not5 w row) (hg : w.grownBy w' row) {u : Value} {bs : List UInt8} (h : Sl w u (bv bs)) (ht : T5 w u) : Sl w' u (bv bs) := by
  obtain ⟨a, cap, e, h1, h2, h3, h4⟩ := h
  refine ⟨a, cap, e, h1, h2, h3, fun i hi => ?_⟩
  obtain ⟨b, o, ea, hc⟩ := h4 i hi
  refine ⟨b, o, ea, ?_⟩
  obtain ⟨cs', m', hb⟩ := ht b o _ cap (by rw [e, ea])
  have hne : row ≠ some b := fun e => by obtain ⟨_, _, _, h1, h2⟩ := hG b e; rw [hb] at h1; cases h1; exact h2 rfl
  have hlt := (Array.getElem?_eq_some_iff.1 hb).1
  obtain ⟨_, _, _, _, hblk⟩ := hg
  have hk : w'.heap[b]? = w.heap[b]? := hblk b hlt (fun e => hne e.symm)
  rw [← hc]
  unfold World.cell?
  rw [hk]
theorem T5.stays {w w' : World} {row : Option Nat} (hG : Not5 w row) (hg : w.grownBy w' row) {u : Value} (ht : T5 w u) : T5 w' u := fun g o n cap e => by
  obtain ⟨cs', m', hb⟩ := ht g o n cap e
  have hne : row ≠ some g := fun e => by obtain ⟨_, _, _, h1, h2⟩ := hG g e; rw [hb] at h1; cases h1; exact h2 rfl
  obtain ⟨_, _, _, _, hblk⟩ := hg
  exact ⟨cs', m', (hblk g (Array.getElem?_eq_some_iff.1 hb).1 (fun e => hne e.symm)).trans hb⟩

/-- An outer row of the call's own; rows of bytes, whoever's. -/
structure LR (w0 w : World) (G L cap : Nat) (vs : List Value) (rows : List (List UInt8)) : Prop where
  row : w.ownsRow w0.heap.size 22 1 (.slice (some ⟨G, 0, none⟩) L cap) L vs
  len : vs.length = rows.length
  el : ∀ i, i < rows.length → Sl w (vs.getD i undef) (bv (rows.getD i [])) ∧ T5 w (vs.getD i undef)
  below : Below w0.heap.size w0 w
theorem LR.later {w0 w w' : World} {G L cap : Nat} {vs : List Value} {rows : List (List UInt8)} (h : LR w0 w G L cap vs rows) (hb : Below w.heap.size w w') : LR w0 w' G L cap vs rows :=
  ⟨own_below h.row hb, h.len, fun i hi => ⟨(h.el i hi).1.below hb, (h.el i hi).2.below hb⟩, below_then h.below h.below.size hb⟩
theorem LR.L {w0 w : World} {G L cap : Nat} {vs : List Value} {rows : List (List UInt8)} (h : LR w0 w G L cap vs rows) : L = rows.length := by
  have := h.row.1
  have := h.len
  omega
theorem LR.heap {w0 w : World} {G L cap : Nat} {vs : List Value} {rows : List (List UInt8)} (h : LR w0 w G L cap vs rows) : ∃ cs, w.heap[G]? = some (.cells cs 22 (0, 0)) := by
  rcases h.row.2 with ⟨h1, _⟩ | ⟨g, c, cur, h1, _, hg, _⟩
  · cases h1
  · cases h1; exact ⟨cur, hg⟩
theorem LR.base {w0 w : World} {G L cap : Nat} {vs : List Value} {rows : List (List UInt8)} (h : LR w0 w G L cap vs rows) : w0.heap.size ≤ G := own_base' h.row G rfl
theorem LR.at {w0 w : World} {G L cap : Nat} {vs : List Value} {rows : List (List UInt8)} (h : LR w0 w G L cap vs rows) (i : Nat) (hi : i < L) :
    w.cell? ⟨G, i, none⟩ = some (vs.getD i undef) ∧ w.frozen? ⟨G, i, none⟩ = false := by
  refine ⟨?_, h.row.frozenAt i⟩
  have hl := h.L
  have := h.row.cells (g := G) rfl i (vs.getD i undef) (by
    rw [List.getD_eq_getElem?_getD, List.getElem?_eq_getElem (by have := h.len; omega)]; rfl)
  rw [Addr.add_lit, Nat.zero_add] at this
  exact this
/-- Another row is put there. -/
theorem LR.put {w0 w : World} {G L cap : Nat} {vs : List Value} {rows : List (List UInt8)} (h : LR w0 w G L cap vs rows) (i : Nat) (hi : i < rows.length) {u : Value} {bs : List UInt8} (hu : Sl w u (bv bs)) (ht : T5 w u) :
    LR w0 (w.setCell ⟨G, i, none⟩ u) G L cap (vs.set i u) (rows.set i bs) := by
  obtain ⟨cs, hG'⟩ := h.heap
  have hG := Not5.one hG' (by decide)
  obtain ⟨hr, hg⟩ := h.row.stored i u
  refine ⟨hr, by simp [h.len], fun j hj => ?_, h.below.setCell h.base _⟩
  rw [List.length_set] at hj
  by_cases e : i = j
  · subst e
    rw [getD_set_eq _ _ _ _ (by rw [h.len]; exact hi), getD_set_eq _ _ _ _ hi]
    exact ⟨hu.stays hG hg ht, ht.stays hG hg⟩
  · rw [getD_set_other _ _ _ _ _ e, getD_set_other _ _ _ _ _ e]
    exact ⟨(h.el j hj).1.stays hG hg (h.el j hj).2, (h.el j hj).2.stays hG hg⟩

set_option maxHeartbeats 400000 in
theorem cloneR_any (w : World) (v : Value) (rows : List (List UInt8)) (n : Nat) (hv : PartsT w v rows) (hn : rows.length = n) (h1 : 1 ≤ n) (h2 : n ≤ 100) :
    Calls Try.prog 66 #[v] w fun e w' => ∃ G cap vs, e = .returned (.slice (some ⟨G, 0, none⟩) n cap) ∧ LR w w' G n cap vs rows := by
  obtain ⟨vs, hs, hl, hel⟩ := hv
  have hone : ∀ y ∈ vs, y.oneCell' = true := by
    intro y hy
    obtain ⟨i, hi, rfl⟩ := List.getElem_of_mem hy
    have := (hel i (by omega)).1.nocell
    rw [List.getD_eq_getElem?_getD, List.getElem?_eq_getElem hi] at this; exact this
  have hvn : vs.length = n := by omega
  have hsl := hs.below (Below.alloc (Below.refl _ w) (Nat.le_refl _) (.cells #[] 22))
  obtain ⟨a, cap, rfl, hc1, hc2, hc3, hrd⟩ := hs
  obtain ⟨b, o, rfl, _⟩ := hrd 0 (by omega)
  rw [hvn] at hsl ⊢
  have heq := fun w' => Lib.run_eql_slice_nil (P := Try.prog) w' 27 22 (some ⟨b, o, none⟩) n cap 0 0 Try.underlying27
  have hr := own_new w w.heap.size 22 [] (by simp [maxLen]) (Nat.le_refl _)
  have hB0 : Below w.heap.size w (w.alloc (.cells #[] 22)) := (Below.refl _ w).alloc (Nat.le_refl _) _
  clear hc1 hc2 hc3 hrd
  go_enter Try.func66, Try.ntmps66
  go_wp2_with (at_builtin; refine wpL_app _ rfl _ _ 27 22 _ 24 rfl Try.underlying27 inf22 rfl (by decide) w.heap.size _ [] rfl hr _ _ rfl hsl hone n (by simp [hvn]) (by omega) (by simp) ?_; intro A cap1 w1 hown hb1 _ _)
  go_ret
  have hB := hB0.trans hb1
  have hA : ∃ G, A = some ⟨G, 0, none⟩ := by
    rcases hown.2 with ⟨h, _⟩ | ⟨g, _, _, h, _⟩
    · cases h; omega
    · cases h; exact ⟨g, rfl⟩
  obtain ⟨G, rfl⟩ := hA
  exact ⟨G, cap1, vs, rfl, hown, hl, fun i hi => ⟨(hel i hi).1.below hB, (hel i hi).2.below hB⟩, hB⟩

set_option maxHeartbeats 400000 in
/-- matrix.reduce's closure: is the number of column c not 0? -/
theorem nz_any (w : World) (X c n : Nat) (v : Value) (bs : List UInt8) (hX : w.cell? ⟨X, 0, none⟩ = some (.int .i64 c)) (hv : Sl w v (bv bs)) (hl : bs.length = n) (hc : c < n) (hn : n ≤ 1000) :
    Calls Try.prog 94 #[v, .pointer (some ⟨X, 0, none⟩)] w fun e w' => e = .returned (.bool (V8 (bs.getD c 0) != 0)) ∧ w' = w := by
  obtain ⟨av, cv, rfl, _, _, _, hr⟩ := hv.openB
  obtain ⟨b, o, rfl, hcell⟩ := hr.byte c (by omega)
  rw [hl]
  have hc' : (c : Int) < n := by omega
  generalize bs.getD c 0 = y at *
  clear hr hv hl
  go_enter Try.func94, Try.ntmps94
  go_wp2
  go_ret
  exact ⟨rfl, rfl⟩

set_option maxRecDepth 100000 in
set_option maxHeartbeats 1000000 in
/-- The first of the rows from at on whose number of column c is not 0. -/
theorem index_any (w : World) (X c n G at' m cap : Nat) (rows : List (List UInt8)) (hX : w.cell? ⟨X, 0, none⟩ = some (.int .i64 c)) (hc : c < n) (hn : n ≤ 1000) (hm : m ≤ 1000)
    (hr : ∀ i, i < m → ∃ u, w.cell? ⟨G, at' + i, none⟩ = some u ∧ Sl w u (bv (rows.getD (at' + i) [])) ∧ (rows.getD (at' + i) []).length = n) :
    Calls Try.prog 93 #[.slice (some ⟨G, at', none⟩) m cap, .func (.func 94) #[] #[.pointer (some ⟨X, 0, none⟩)]] w fun e w' =>
      (e = .returned (.int .i64 (-1)) ∧ w' = w ∧ ∀ i, i < m → (rows.getD (at' + i) []).getD c 0 = 0) ∨
      ∃ k, k < m ∧ e = .returned (.int .i64 k) ∧ w' = w ∧ (rows.getD (at' + k) []).getD c 0 ≠ 0 := by
  have HR := Lib.hid hr
  have hm' : (m : Int) ≤ 1000 := by omega
  clear hr
  go_enter Try.func93, Try.ntmps93
  go_wp2
  go_loopw [5, 8] (fun _ i wr => ∃ k : Nat, k ≤ m ∧ i = .int .i64 k ∧ wr = w ∧ Hid (∀ i, i < k → (rows.getD (at' + i) []).getD c 0 = 0)) (fun _ i _ => (m - intOf i).toNat)
  case atStart => exact ⟨0, by omega, rfl, rfl, fun i hi => absurd hi (by omega)⟩
  case round =>
    obtain ⟨k, hk, rfl, rfl, hz⟩ := hrel
    by_cases hlt : k < m
    · have hlt' : (k : Int) < m := by omega
      obtain ⟨u, cu, su, lu⟩ := HR.out k hlt
      have hcall := nz_any _ X c n u _ hX su lu hc hn
      by_cases h0 : (rows.getD (at' + k) []).getD c 0 = 0
      · rw [h0, show (V8 0 != 0) = false from rfl] at hcall
        have Hz := Lib.hid (show ∀ i, i < k + 1 → (rows.getD (at' + i) []).getD c 0 = 0 from fun i hi => by
          by_cases e : i = k
          · rw [e]; exact h0
          · exact hz.out i (by omega))
        have Hk := Lib.hid (show k + 1 ≤ m from hlt)
        clear su lu h0 hz hk hlt
        go_wp2_with (go_at_call 94; refine hcall.mono ?_; rintro e w' ⟨rfl, rfl⟩)
        go_roundw
        case rel => exact ⟨k + 1, Hk.out, by go_num, trivial, Hz.out⟩
        case measure => have := Hk.out; simp [intOf]; omega
      · have hne : (V8 ((rows.getD (at' + k) []).getD c 0) != 0) = true := by
          have : (V8 ((rows.getD (at' + k) []).getD c 0) == 0) = false := beq_eq_false_iff_ne.2 fun e => h0 ((v8_zero _).1 e)
          simp only [bne, this]; rfl
        rw [hne] at hcall
        have HZ := Lib.hid h0
        have Hk := Lib.hid hlt
        clear su lu h0 hz hk hlt hne
        go_wp2_with (go_at_call 94; refine hcall.mono ?_; rintro e w' ⟨rfl, rfl⟩)
        go_ret
        exact .inr ⟨k, Hk.out, rfl, rfl, HZ.out⟩
    · obtain rfl : k = m := by omega
      clear hlt hk
      go_wp2
      go_ret
      exact .inl ⟨rfl, rfl, hz.out⟩
end Go.Proofs.Ytllnocffmlagjaa
