/- Steps of memory that the matrices' texts share: rows apart, a slice as a string. Conditions: each theorem names its own. -/
import Derived.Test.YtllnocffmlagjaaS1
import Derived.Test.YtllnocffmlagjaaF2
set_option linter.unusedVariables false
namespace Go.Proofs.Ytllnocffmlagjaa
open Go.RowKit
theorem own_other {w : World} {b b' : Nat} {u v : Value} {n m : Nat} {xs ys : List Value} (h : w.ownsRow b 5 1 u n xs) (h' : w.ownsRow b' 22 1 v m ys) : u.ownBlock = none ∨ u.ownBlock ≠ v.ownBlock := by
  rcases h.2 with ⟨rfl, _⟩ | ⟨g, cap, cur, rfl, _, hg, _⟩
  · exact .inl rfl
  · refine .inr fun e => ?_
    rcases h'.2 with ⟨rfl, _⟩ | ⟨g', cap', cur', rfl, _, hg', _⟩
    · cases e
    · cases e; rw [hg] at hg'; cases hg'
/-- A block of another type is no row's. -/
theorem own_not {w : World} {b e : Nat} {t : TypeId} {P : Nat} {cs : Array Value} {v : Value} {n : Nat} {xs : List Value} (hP : w.heap[P]? = some (.cells cs t (0, 0))) (hv : w.ownsRow b e 1 v n xs) (hne : e ≠ t) : v.ownBlock = none ∨ v.ownBlock ≠ some P := by
  rcases hv.2 with ⟨rfl, _⟩ | ⟨g, cap, cur, rfl, _, hg, _⟩
  · exact .inl rfl
  · refine .inr fun h => ?_
    have : g = P := Option.some.inj h
    subst this
    rw [hP] at hg; cases hg; exact hne rfl
theorem grown_setCell (w : World) (P k : Nat) (u : Value) : w.grownBy (w.setCell ⟨P, k, none⟩ u) (some P) :=
  ⟨by simp [World.setCell], by simp [World.setCell], by simp [World.setCell], by simp, fun g hg hne => heap_setCell_other w ⟨P, k, none⟩ g u (fun e => hne (by rw [e]))⟩
theorem own_setP {w : World} {b e : Nat} {t : TypeId} {P k : Nat} {cs : Array Value} {v u : Value} {n : Nat} {xs : List Value} (hP : w.heap[P]? = some (.cells cs t (0, 0))) (hv : w.ownsRow b e 1 v n xs) (hne : e ≠ t) :
    (w.setCell ⟨P, k, none⟩ u).ownsRow b e 1 v n xs := hv.kept (grown_setCell w P k u) (own_not hP hv hne)
/-- string(v) of a byte slice. -/
theorem conv_str (w : World) (v : Value) (bs : List UInt8) (h : Sl w v (bv bs)) : (convert 22 9 v).run Try.prog w = .ok (.string (strOfNums (bs.map V8))) w := by
  obtain ⟨a, cap, rfl, hl, _, hn, hr⟩ := h.openB
  rcases Nat.eq_zero_or_pos bs.length with h0 | h0
  · obtain rfl := List.eq_nil_of_length_eq_zero h0
    rcases a with _ | ad
    · rw [run_convert_bytes_nil w 22 5 Try.underlying22 Try.underlying5 _ _ 9 Try.underlying9]; rfl
    · rw [run_convert_bytes_string w 22 9 5 _ _ _ Try.underlying22 Try.underlying5 Try.underlying9]
      exact run_bytesToString w ad 0 cap [] (by simp [loadCells, loadCellsFrom, Sem.run_pure])
  · obtain ⟨b, o, rfl, _⟩ := hr.byte 0 h0
    refine run_convert_bytes_arg w 22 5 Try.underlying22 Try.underlying5 b o bs.length cap (bs.map V8) (by simp) (fun i hi => ?_) 9 Try.underlying9
    obtain ⟨b', o', e, hc⟩ := hr.byte i hi
    cases e
    rw [hc]
    simp [List.getD_eq_getElem?_getD, hi]
theorem Parts.shape {w : World} {v : Value} {ps : List (List UInt8)} (h : Parts w v ps) : ∃ a cap, v = .slice a ps.length cap ∧ ps.length ≤ cap ∧ cap ≤ maxLen ∧ (0 < ps.length → ∃ b o, a = some ⟨b, o, none⟩) := by
  obtain ⟨vs, ⟨a, c, rfl, h1, h2, h3, h4⟩, h5, h6⟩ := h
  refine ⟨a, c, by rw [h5], by omega, h2, fun hp => ?_⟩
  obtain ⟨b, o, e, _⟩ := h4 0 (by omega)
  exact ⟨b, o, e⟩
theorem Sl.nocell {w : World} {v : Value} {xs : List Value} (h : Sl w v xs) : v.oneCell' = true := by
  obtain ⟨a, cap, rfl, _⟩ := h; rfl
end Go.Proofs.Ytllnocffmlagjaa
