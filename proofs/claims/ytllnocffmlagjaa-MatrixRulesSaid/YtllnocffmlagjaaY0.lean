/- Rows of rows of bytes in memory, each in a row of its own; the matrix in memory. Conditions: each theorem names its own. -/
import Derived.Test.YtllnocffmlagjaaX4
set_option linter.unusedVariables false
namespace Go.Proofs.Ytllnocffmlagjaa
open Go.RowKit

/-- Rows of bytes of the call's own, in blocks apart. -/
structure OR (w0 w : World) (lv : Value) (vs : List Value) (rows : List (List UInt8)) : Prop where
  row : w.ownsRow w0.heap.size 22 1 lv vs.length vs
  len : vs.length = rows.length
  el : ∀ i, i < rows.length → w.ownsRow w0.heap.size 5 1 (vs.getD i undef) (rows.getD i []).length (bv (rows.getD i []))
  ne : ∀ i j, i < rows.length → j < rows.length → i ≠ j → ∀ X, (vs.getD i undef).ownBlock = some X → (vs.getD j undef).ownBlock ≠ some X
  below : Below w0.heap.size w0 w
theorem OR.later {w0 w w' : World} {lv : Value} {vs : List Value} {rows : List (List UInt8)} (h : OR w0 w lv vs rows) (hb : Below w.heap.size w w') : OR w0 w' lv vs rows :=
  ⟨own_below h.row hb, h.len, fun i hi => own_below (h.el i hi) hb, h.ne, below_then h.below h.below.size hb⟩
theorem OR.drewN {w0 w : World} {lv : Value} {vs : List Value} {rows : List (List UInt8)} (h : OR w0 w lv vs rows) (n : Nat) : OR w0 (w.drewN n) lv vs rows := ⟨h.row, h.len, h.el, h.ne, below_drewN h.below n⟩
theorem OR.shape {w0 w : World} {lv : Value} {vs : List Value} {rows : List (List UInt8)} (h : OR w0 w lv vs rows) : ∃ A cap, lv = .slice A rows.length cap := by
  have := own_shape h.row
  rw [h.len] at this; exact this
theorem OR.new (W : World) (n : Nat) {w' : World} (h : w'.ownsRow W.heap.size 22 1 (.slice (some ⟨W.heap.size, 0, none⟩) n n) n (List.replicate n (.slice none 0 0))) (hb : Below W.heap.size W w') :
    OR W w' (.slice (some ⟨W.heap.size, 0, none⟩) n n) (List.replicate n (.slice none 0 0)) (List.replicate n []) := by
  have hg : ∀ i, i < n → (List.replicate n (Value.slice none 0 0)).getD i undef = .slice none 0 0 := fun i hi => by
    rw [List.getD_eq_getElem?_getD, List.getElem?_replicate, if_pos hi]; rfl
  refine ⟨by rw [List.length_replicate]; exact h, by simp, fun i hi => ?_, fun i j hi hj hne X hX => ?_, hb⟩
  · rw [List.length_replicate] at hi
    rw [hg i hi, List.getD_eq_getElem?_getD, List.getElem?_replicate, if_pos hi]
    exact World.ownsRow_nil _ _ _ _
  · rw [List.length_replicate] at hi
    rw [hg i hi] at hX; cases hX
/-- Row i, opened. -/
theorem OR.at {w0 w : World} {A : Option Addr} {L cap : Nat} {vs : List Value} {rows : List (List UInt8)} (h : OR w0 w (.slice A L cap) vs rows) (i : Nat) (hi : i < rows.length) :
    ∃ g, A = some ⟨g, 0, none⟩ ∧ w.cell? ⟨g, i, none⟩ = some (vs.getD i undef) ∧ w.frozen? ⟨g, i, none⟩ = false ∧ w.heap.size > g ∧ w0.heap.size ≤ g := by
  have hr := h.row
  rcases hr.2 with ⟨h1, h2⟩ | ⟨g, c, cur, h1, hb, hg, _⟩
  · exfalso; have := h.len; omega
  · have h1' := h1
    injection h1 with e1 e2 e3
    subst e1
    rw [e2] at h
    have hh := h.row
    refine ⟨g, rfl, ?_, ?_, (Array.getElem?_eq_some_iff.1 hg).1, hb⟩
    · rw [hh.cellAt i (by rw [h.len]; omega), List.getD_eq_getElem?_getD, List.getElem?_eq_getElem (by rw [h.len]; exact hi)]; rfl
    · exact hh.frozenAt i
theorem OR.sl {w0 w : World} {lv : Value} {vs : List Value} {rows : List (List UInt8)} (h : OR w0 w lv vs rows) (i : Nat) (hi : i < rows.length) : Sl w (vs.getD i undef) (bv (rows.getD i [])) :=
  Sl.of_own (by rw [bv_length]; exact h.el i hi)
theorem OR.parts {w0 w : World} {lv : Value} {vs : List Value} {rows : List (List UInt8)} (h : OR w0 w lv vs rows) : Parts w lv rows := ⟨vs, Sl.of_own h.row, h.len, fun i hi => h.sl i hi⟩
theorem getD_set_eq {α : Type} (l : List α) (i : Nat) (a d : α) (h : i < l.length) : (l.set i a).getD i d = a := by
  rw [List.getD_eq_getElem?_getD, List.getElem?_set, if_pos rfl, if_pos h]; rfl
theorem getD_set_other {α : Type} (l : List α) (i j : Nat) (a d : α) (h : i ≠ j) : (l.set i a).getD j d = l.getD j d := by
  rw [List.getD_eq_getElem?_getD, List.getElem?_set, if_neg h, ← List.getD_eq_getElem?_getD]
/-- A new row of bytes is laid in place i. -/
theorem OR.put {w0 w w2 : World} {g L cap : Nat} {vs : List Value} {rows : List (List UInt8)} (h : OR w0 w (.slice (some ⟨g, 0, none⟩) L cap) vs rows) (i : Nat) (hi : i < rows.length) {u : Value} {bs : List UInt8} (hO : OB w w2 u bs) :
    OR w0 (w2.setCell ⟨g, i, none⟩ u) (.slice (some ⟨g, 0, none⟩) L cap) (vs.set i u) (rows.set i bs) := by
  have h2 := h.later hO.2
  have hl : vs.length = L := by
    obtain ⟨A', c', e⟩ := own_shape h.row
    injection e with _ e2 _; exact e2.symm
  have hrow := h2.row
  rw [hl] at hrow
  obtain ⟨hr, hg⟩ := hrow.stored i u
  have hgb : w0.heap.size ≤ g := own_base' hrow g rfl
  have hrowg : ∀ (v : Value) (B n : Nat) (xs : List Value), w2.ownsRow B 5 1 v n xs → (w2.setCell ⟨g, i, none⟩ u).ownsRow B 5 1 v n xs := fun v B n xs hv => hv.kept hg (own_other hv hrow)
  refine ⟨by rw [List.length_set, hl]; exact hr, by simp [h.len], fun j hj => ?_, fun j k hj hk hne X hX => ?_, h2.below.setCell hgb _⟩
  · rw [List.length_set] at hj
    by_cases e : i = j
    · subst e
      rw [getD_set_eq _ _ _ _ (by rw [h.len]; exact hi), getD_set_eq _ _ _ _ hi]
      exact hrowg _ _ _ _ (own_rebase hO.1 h.below.size)
    · rw [getD_set_other _ _ _ _ _ e, getD_set_other _ _ _ _ _ e]
      exact hrowg _ _ _ _ (h2.el j hj)
  · rw [List.length_set] at hj hk
    by_cases e : i = j
    · subst e
      rw [getD_set_eq _ _ _ _ (by rw [h.len]; exact hi)] at hX
      rw [getD_set_other _ _ _ _ _ hne]
      intro e2
      have b1 := own_base' hO.1 X hX
      have b2 := (h.el k hk).lt X e2
      omega
    · rw [getD_set_other _ _ _ _ _ e] at hX
      by_cases e' : i = k
      · subst e'
        rw [getD_set_eq _ _ _ _ (by rw [h.len]; exact hi)]
        intro e2
        have b1 := own_base' hO.1 X e2
        have b2 := (h.el j hj).lt X hX
        omega
      · rw [getD_set_other _ _ _ _ _ e']
        exact h.ne j k hj hk hne X hX
/-- A byte of row i is written. -/
theorem OR.setAt {w0 w : World} {lv : Value} {vs : List Value} {rows : List (List UInt8)} (h : OR w0 w lv vs rows) (i : Nat) (hi : i < rows.length) {X m c : Nat} (hv : vs.getD i undef = .slice (some ⟨X, 0, none⟩) m c) (k : Nat) (y : UInt8) :
    OR w0 (w.setCell ⟨X, k, none⟩ (.int .u8 (V8 y))) lv vs (rows.set i ((rows.getD i []).set k y)) := by
  have hel := h.el i hi
  rw [hv] at hel
  have hm : (rows.getD i []).length = m := by
    obtain ⟨A', c', e⟩ := own_shape hel
    injection e with _ e2 _; exact e2.symm
  rw [hm] at hel
  obtain ⟨hr, hg⟩ := hel.stored k (.int .u8 (V8 y))
  rw [bv_set] at hr
  have hXb : w0.heap.size ≤ X := own_base' hel X rfl
  refine ⟨h.row.kept hg ?_, by simp [h.len], fun j hj => ?_, fun j l hj hl => ?_, h.below.setCell hXb _⟩
  · have := own_other hel h.row
    cases hlv : lv.ownBlock with
    | none => exact .inl rfl
    | some z =>
      refine .inr fun e => ?_
      rcases this with h1 | h1
      · cases h1
      · exact h1 (by rw [hlv, e]; rfl)
  · rw [List.length_set] at hj
    by_cases e : i = j
    · subst e
      rw [getD_set_eq _ _ _ _ hi, List.length_set, hv, hm]
      exact hr
    · rw [getD_set_other _ _ _ _ _ e]
      refine (h.el j hj).kept hg (.inr fun e2 => ?_)
      exact h.ne j i hj hi (fun e3 => e e3.symm) X e2 (by rw [hv]; rfl)
  · rw [List.length_set] at hj hl
    exact h.ne j l hj hl
theorem row_at {w : World} {B m cap X : Nat} {zs : List UInt8} (ho : w.ownsRow B 5 1 (.slice (some ⟨X, 0, none⟩) m cap) m (bv zs)) (j : Nat) (hj : j < m) :
    w.cell? ⟨X, j, none⟩ = some (.int .u8 (V8 (zs.getD j 0))) ∧ w.frozen? ⟨X, j, none⟩ = false := by
  have hl : zs.length = m := by have := ho.1; rw [bv_length] at this; omega
  refine ⟨?_, ho.frozenAt j⟩
  rw [ho.cellAt j (by omega), bv, List.getElem?_map, List.getElem?_eq_getElem (by omega)]
  simp [List.getD_eq_getElem?_getD, show j < zs.length by omega]
end Go.Proofs.Ytllnocffmlagjaa
