/- The steps of the walk over a region that draws its order. Conditions: each theorem names its own. -/
import Derived.Test.YtllnocffmlagjaaF1
import Derived.Test.YtllnocffmlagjaaM1
set_option linter.unusedVariables false
namespace Go.Proofs.Ytllnocffmlagjaa
open Go.RowKit
section
variable {P : Program} {ops : Array Oper} {C : World → Prop} {Q : ((Nat → Value) → World → Prop) → ((Nat → Value) → Act) → Prop}
  {o : Oper} {rest : List Oper} {k : Nat} {D : Nat → (Nat → Value) → World → Prop} {G : (Nat → Value) → World → Prop} {A : (Nat → Value) → Act}
/-- The value is e. -/
def Yv (e : Value) (u : Value) (_ : World) : Prop := u = e
/-- One value, whatever the order. -/
theorem flow_D {e : Value} (hg : ∀ ν, Region.wanted o (yielded ops (A ν).tmps) = true) (h : ∀ ν w, C w → D k ν w → flowAt P o (A ν) w (Yv e))
    (hK : flowW P ops C Q rest (k + 1) D G (fun ν => (A ν).put o.dst e)) : flowW P ops C Q (o :: rest) k D G A :=
  ⟨⟨false, e, fun _ _ => True, true⟩, fun _ _ _ _ _ => trivial, hg, fun _ ν w hC hD => flowUpon_mono (h ν w hC hD) fun u w' hu => ⟨fun _ => hu, trivial⟩, fun h => (by cases h), hK⟩
/-- A value that R tells of. -/
theorem flow_N (R : Value → World → Prop) (hl : ∀ u, Lives (R u)) (hg : ∀ ν, Region.wanted o (yielded ops (A ν).tmps) = true) (h : ∀ ν w, C w → D k ν w → flowAt P o (A ν) w R)
    (hK : flowW P ops C Q rest (k + 1) (fun i ν w => D i ν w ∧ (Region.waitsFor .any ops i k = true → R (ν k) w)) (fun ν w => G ν w ∧ R (ν k) w) (fun ν => (A ν).put o.dst (ν k))) :
    flowW P ops C Q (o :: rest) k D G A :=
  ⟨⟨true, undef, R, true⟩, hl, hg, fun _ ν w hC hD => flowUpon_mono (h ν w hC hD) fun u w' hu => ⟨fun h => (by cases h), hu⟩, fun h => (by cases h), hK⟩
/-- An operation whose guard says no. -/
theorem flow_U (hg : ∀ ν, Region.wanted o (yielded ops (A ν).tmps) = false) (hK : flowW P ops C Q rest (k + 1) D G (fun ν => (A ν).put o.dst undef)) : flowW P ops C Q (o :: rest) k D G A :=
  ⟨⟨false, undef, fun _ _ => True, false⟩, fun _ _ _ _ _ => trivial, hg, fun h => (by cases h), fun _ => rfl, hK⟩
theorem wanted_none {f : Nat → Option Bool} (h : o.guard = none) : Region.wanted o f = true := by unfold Region.wanted; rw [h]
theorem flow_D0 {e : Value} (hg : o.guard = none) (h : ∀ ν w, C w → D k ν w → flowAt P o (A ν) w (Yv e))
    (hK : flowW P ops C Q rest (k + 1) D G (fun ν => (A ν).put o.dst e)) : flowW P ops C Q (o :: rest) k D G A := flow_D (fun _ => wanted_none hg) h hK
theorem flow_N0 (R : Value → World → Prop) (hl : ∀ u, Lives (R u)) (hg : o.guard = none) (h : ∀ ν w, C w → D k ν w → flowAt P o (A ν) w R)
    (hK : flowW P ops C Q rest (k + 1) (fun i ν w => D i ν w ∧ (Region.waitsFor .any ops i k = true → R (ν k) w)) (fun ν w => G ν w ∧ R (ν k) w) (fun ν => (A ν).put o.dst (ν k))) :
    flowW P ops C Q (o :: rest) k D G A := flow_N R hl (fun _ => wanted_none hg) h hK
theorem flow_nil (h : Q G A) : flowW P ops C Q [] k D G A := h
theorem flow_val {a : Act} {w : World} {u : Value} {R : Value → World → Prop} (hr : (execOp a.eval o).run P w = .ok (.value u) w) (hR : R u w) : flowAt P o a w R := by
  unfold flowAt flowUpon; rw [hr]; exact ⟨Below.refl _ _, hR⟩
theorem flow_call {a : Act} {w : World} {f : FuncId} {args : Array Value} {R : Value → World → Prop} (hr : (execOp a.eval o).run P w = .ok (.enter f args) w)
    (hc : Calls P f args w (RetIn w R)) : flowAt P o a w R := by
  unfold flowAt flowUpon; rw [hr]; exact ⟨Below.refl _ _, hc⟩
end
theorem lives_below (W : World) : Lives (fun w => Below W.heap.size W w) := fun _ _ h hb => below_then h h.size hb
theorem lives_and {C D : World → Prop} (h : Lives C) (k : Lives D) : Lives (fun w => C w ∧ D w) := fun _ _ ⟨a, b⟩ hb => ⟨h _ _ a hb, k _ _ b hb⟩
theorem lives_sl (v : Value) (xs : List Value) : Lives (fun w => Sl w v xs) := fun _ _ h hb => h.below hb
theorem lives_cell (a : Addr) (v : Value) : Lives (fun w => w.cell? a = some v) := fun w w' h hb => (hb.cell (World.block_lt_of_cell? w a h)).trans h
theorem lives_pure (p : Prop) : Lives (fun _ => p) := fun _ _ h _ => h
theorem lives_block (g : Nat) (o : Obj) : Lives (fun w => w.heap[g]? = some o) := fun w w' h hb => by
  have hlt : g < w.heap.size := (Array.getElem?_eq_some_iff.1 h).1
  exact (hb.block g hlt).trans h
theorem lives_ob (w0 : World) (v : Value) (bs : List UInt8) : Lives (fun w => OB w0 w v bs) := fun _ _ h hb => h.later hb
theorem below_drawn (W : World) (n : Nat) : Below W.heap.size W { W with drawn := W.drawn + n } := ⟨rfl, rfl, rfl, Nat.le_refl _, fun _ _ => rfl⟩
theorem ext_drewN (w : World) (n : Nat) : Below w.heap.size w (w.drewN n) := below_drewN (Below.refl _ w) n
theorem wp_flowC {P : Program} {id : Nat} {Q : Exit → Act → World → Prop} {a : Act} {w : World} {l : List Oper} (n : Nat) (hm : P.follows .mixedOrders = true) (hB : flowB l.toArray n = true)
    (C : World → Prop) (hC : Lives C) (hCw : C w)
    (h : flowW P l.toArray C (fun G A => ∀ ν w', C w' → G ν w' → wpList P l.toArray Q (l.drop n) (A ν) w') (l.take n) 0 (fun _ _ _ => True) (fun _ _ => True) (fun _ => a)) :
    (Code.region id l.toArray true).wp P Q a w :=
  wp_flow n hm hB C hC (hC _ _ hCw (below_drawn w 1)) h
end Go.Proofs.Ytllnocffmlagjaa
