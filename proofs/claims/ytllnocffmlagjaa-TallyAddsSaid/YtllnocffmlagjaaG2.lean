/- The steps of the walk over a region that draws its order and writes to what it has made. Conditions: each theorem names its own. -/
import Derived.Test.YtllnocffmlagjaaG1
import Derived.Test.YtllnocffmlagjaaF2
set_option linter.unusedVariables false
namespace Go.Proofs.Ytllnocffmlagjaa.J
open Go.RowKit
/-- The world grows; or it turns, but not below B. -/
def JB (B : Nat) : Bool → World → World → Prop
  | false, w, w' => Below w.heap.size w w'
  | true, w, w' => B ≤ w.heap.size → Below B w w'
theorem JB.rel (B : Nat) : ∀ b, Rel (JB B b)
  | false => ⟨fun w => Below.refl _ w, fun a b c h k => Ext.trans h k⟩
  | true => ⟨fun w _ => Below.refl _ w, fun a b c h k hB => (h hB).trans (k (Nat.le_trans hB (h hB).size))⟩
theorem lives_both {B : Nat} {C : World → Prop} (h : ∀ w w', C w → Below B w w' → C w') (hB : ∀ w, C w → B ≤ w.heap.size) : ∀ b, Lives (JB B b) C
  | false => fun w w' hc hb => h w w' hc (hb.mono (hB w hc))
  | true => fun w w' hc hb => h w w' hc (hb (hB w hc))
section
variable {B : Nat} {T : Tab} {P : Program} {ops : Array Oper} {C : World → Prop} {Q : ((Nat → Value) → World → Prop) → ((Nat → Value) → Act) → Prop}
  {o : Oper} {rest : List Oper} {k : Nat} {D : Nat → (Nat → Value) → World → Prop} {G : (Nat → Value) → World → Prop} {A : (Nat → Value) → Act}
theorem flow_same {a : Act} {w : World} {R R' : Value → World → Prop} (h : Ytllnocffmlagjaa.flowAt P o a w R) (hR : ∀ u w', R u w' → R' u w') : flowAt (JB B false) P o a w R' := by
  unfold Ytllnocffmlagjaa.flowAt at h
  unfold flowAt
  generalize (execOp a.eval o).run P w = r at *
  unfold Ytllnocffmlagjaa.flowUpon at h
  unfold flowUpon
  split at h
  · exact ⟨h.1, hR _ _ h.2⟩
  · exact ⟨h.1, hR _ _ h.2⟩
  · exact ⟨h.1, h.2.mono fun e' w'' ⟨u, he, hb, hu⟩ => ⟨u, he, hb, hR _ _ hu⟩⟩
  · exact h.elim
theorem flow_D {e : Value} (hs : T.spc k = false) (hg : ∀ ν, Region.wanted o (yielded ops (A ν).tmps) = true) (h : ∀ ν w, C w → D k ν w → Ytllnocffmlagjaa.flowAt P o (A ν) w (Yv e))
    (hK : flowW (JB B) T P ops C Q rest (k + 1) D G (fun ν => (A ν).put o.dst e)) : flowW (JB B) T P ops C Q (o :: rest) k D G A :=
  ⟨⟨false, e, fun _ _ => True, true⟩, fun _ _ _ _ _ => trivial, fun _ _ _ _ _ _ => trivial, hg, fun _ ν w hC hD => by
    rw [hs]
    exact flow_same (h ν w hC hD) fun u w' hu => ⟨fun _ => hu, trivial⟩, fun h => (by cases h), hK⟩
theorem flow_N (R : Value → World → Prop) (hl : ∀ u, Ytllnocffmlagjaa.Lives (R u)) (hs : T.spc k = false) (hp : T.plain k = false) (hg : ∀ ν, Region.wanted o (yielded ops (A ν).tmps) = true) (h : ∀ ν w, C w → D k ν w → Ytllnocffmlagjaa.flowAt P o (A ν) w R)
    (hK : flowW (JB B) T P ops C Q rest (k + 1) (fun i ν w => D i ν w ∧ (T.told ops i k = true → R (ν k) w)) (fun ν w => G ν w ∧ (T.use k = none → R (ν k) w)) (fun ν => (A ν).put o.dst (ν k))) :
    flowW (JB B) T P ops C Q (o :: rest) k D G A :=
  ⟨⟨true, undef, R, true⟩, hl, fun h => (by rw [hp] at h; cases h), hg, fun _ ν w hC hD => by
    rw [hs]
    exact flow_same (h ν w hC hD) fun u w' hu => ⟨fun h => (by cases h), hu⟩, fun h => (by cases h), hK⟩
/-- An operation that may write to what the region has made. -/
theorem flow_S (R : Value → World → Prop) (hl : ∀ u, Ytllnocffmlagjaa.Lives (R u)) (hs : T.spc k = true) (hp : T.plain k = false) (hg : ∀ ν, Region.wanted o (yielded ops (A ν).tmps) = true) (h : ∀ ν w, C w → D k ν w → flowAt (JB B true) P o (A ν) w R)
    (hK : flowW (JB B) T P ops C Q rest (k + 1) (fun i ν w => D i ν w ∧ (T.told ops i k = true → R (ν k) w)) (fun ν w => G ν w ∧ (T.use k = none → R (ν k) w)) (fun ν => (A ν).put o.dst (ν k))) :
    flowW (JB B) T P ops C Q (o :: rest) k D G A :=
  ⟨⟨true, undef, R, true⟩, hl, fun h => (by rw [hp] at h; cases h), hg, fun _ ν w hC hD => by
    rw [hs]
    exact flowUpon_mono (h ν w hC hD) fun u w' hu => ⟨fun h => (by cases h), hu⟩, fun h => (by cases h), hK⟩
theorem flow_U (hg : ∀ ν, Region.wanted o (yielded ops (A ν).tmps) = false) (hK : flowW (JB B) T P ops C Q rest (k + 1) D G (fun ν => (A ν).put o.dst undef)) : flowW (JB B) T P ops C Q (o :: rest) k D G A :=
  ⟨⟨false, undef, fun _ _ => True, false⟩, fun _ _ _ _ _ => trivial, fun _ _ _ _ _ _ => trivial, hg, fun h => (by cases h), fun _ => rfl, hK⟩
theorem flow_D0 {e : Value} (hs : T.spc k = false) (hg : o.guard = none) (h : ∀ ν w, C w → D k ν w → Ytllnocffmlagjaa.flowAt P o (A ν) w (Yv e))
    (hK : flowW (JB B) T P ops C Q rest (k + 1) D G (fun ν => (A ν).put o.dst e)) : flowW (JB B) T P ops C Q (o :: rest) k D G A := flow_D hs (fun _ => wanted_none hg) h hK
theorem flow_N0 (R : Value → World → Prop) (hl : ∀ u, Ytllnocffmlagjaa.Lives (R u)) (hs : T.spc k = false) (hp : T.plain k = false) (hg : o.guard = none) (h : ∀ ν w, C w → D k ν w → Ytllnocffmlagjaa.flowAt P o (A ν) w R)
    (hK : flowW (JB B) T P ops C Q rest (k + 1) (fun i ν w => D i ν w ∧ (T.told ops i k = true → R (ν k) w)) (fun ν w => G ν w ∧ (T.use k = none → R (ν k) w)) (fun ν => (A ν).put o.dst (ν k))) :
    flowW (JB B) T P ops C Q (o :: rest) k D G A := flow_N R hl hs hp (fun _ => wanted_none hg) h hK
theorem flow_S0 (R : Value → World → Prop) (hl : ∀ u, Ytllnocffmlagjaa.Lives (R u)) (hs : T.spc k = true) (hp : T.plain k = false) (hg : o.guard = none) (h : ∀ ν w, C w → D k ν w → flowAt (JB B true) P o (A ν) w R)
    (hK : flowW (JB B) T P ops C Q rest (k + 1) (fun i ν w => D i ν w ∧ (T.told ops i k = true → R (ν k) w)) (fun ν w => G ν w ∧ (T.use k = none → R (ν k) w)) (fun ν => (A ν).put o.dst (ν k))) :
    flowW (JB B) T P ops C Q (o :: rest) k D G A := flow_S R hl hs hp (fun _ => wanted_none hg) h hK
theorem flow_nil (h : Q G A) : flowW (JB B) T P ops C Q [] k D G A := h
theorem wp_flowC {P : Program} {id : Nat} {Q : Exit → Act → World → Prop} {a : Act} {W0 : World} {l : List Oper} (n : Nat) (hm : P.follows .mixedOrders = true) (hB : flowB l.toArray n = true)
    (T : Tab) (hT : tabB T l.toArray n = true)
    (h : flowW (JB W0.heap.size) T P l.toArray (fun w => Below W0.heap.size W0 w) (fun G A => ∀ ν w', Below W0.heap.size W0 w' → G ν w' → wpList P l.toArray Q (l.drop n) (A ν) w') (l.take n) 0 (fun _ _ _ => True) (fun _ _ => True) (fun _ => a)) :
    (Code.region id l.toArray true).wp P Q a W0 :=
  wp_flow (JB.rel _) n hm hB hT (fun w => Below W0.heap.size W0 w) (lives_both (fun w w' h hb => h.trans hb) (fun w h => h.size)) (below_drawn W0 1) h
/-- append(v, src), v a row of the region's own. -/
theorem flow_app {a : Act} {w W0 : World} {o : Oper} (s x : Operand) (ho : o.op = .call { callee := .builtin .append, args := #[s, x], argTypes := #[22, 22] })
    (v src : Value) (bs ys : List UInt8) (hs : a.eval s = v) (hx : a.eval x = src) (hv : OB W0 w v bs) (hy : Sl w src (bv ys)) (hb : bs.length + ys.length ≤ 140737488355328) :
    flowAt (JB W0.heap.size true) Try.prog o a w (fun u w' => OB W0 w' u (bs ++ ys)) := by
  obtain ⟨v', w', hr, h2, h3, h4⟩ := run_app (P := Try.prog) w W0.heap.size 22 o.type 5 _ 1 Try.underlying22 inf5 rfl v (bv bs) hv.own src (bv ys) hy (bv_one _) (by decide) (by rw [bv_length, bv_length]; omega) hv.2.size
  unfold flowAt flowUpon execOp
  simp only [ho, resolve, invoke, builtin, Sem.run_bind, Sem.run_pure, Result.andThen_ok, List.map_toArray, List.map_cons, List.map_nil, hs, hx, hr]
  have hb' := below_grown h3 (own_base' hv.1) hv.2.size
  refine ⟨fun _ => hb', ?_, hv.2.trans hb'⟩
  rw [← bv_append, bv_length] at h2
  exact h2
end
end Go.Proofs.Ytllnocffmlagjaa.J
