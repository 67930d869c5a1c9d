/- A region that draws its order, by an invariant over what has come up: for regions that make variables and write them. Conditions: each theorem names its own. -/
import Derived.Test.YtllnocffmlagjaaF2
set_option linter.unusedVariables false
set_option linter.unusedSimpArgs false
namespace Go.Proofs.Ytllnocffmlagjaa
open Go.RowKit
/-- What an operation yields, with nothing told of the world but by R. -/
def yieldUpon (P : Program) (w : World) (R : Value → World → Prop) : Result Next → Prop
  | .ok (.value u) w' => R u w'
  | .ok .skip w' => R undef w'
  | .ok (.enter f args) w' => Calls P f args w' (fun e w'' => ∃ u, e = .returned u ∧ R u w'')
  | _ => False
section
variable {P : Program} {ops : Array Oper} {a0 : Act} {sp : List FSpec} {n : Nat}
theorem wp_of_yield {o : Oper} {a : Act} {w : World} {R : Value → World → Prop} {K : Act → World → Prop} {Q : Exit → Act → World → Prop} (h : yieldUpon P w R ((execOp a.eval o).run P w))
    (hK : ∀ u w', R u w' → K (a.put o.dst u) w') : o.wp P a w K Q := by
  unfold Oper.wp
  generalize (execOp a.eval o).run P w = r at *
  unfold yieldUpon at h
  split at h
  · exact hK _ _ h
  · exact hK _ _ h
  · exact h.mono fun e w'' ⟨u, he, hr⟩ => by subst he; exact hK _ _ hr
  · exact h.elim
theorem yieldUpon_mono {w : World} {R R' : Value → World → Prop} {r : Result Next} (h : yieldUpon P w R r) (hR : ∀ u w', R u w' → R' u w') : yieldUpon P w R' r := by
  unfold yieldUpon at *
  split at h
  · exact hR _ _ h
  · exact hR _ _ h
  · exact h.mono fun e w'' ⟨u, he, hr⟩ => ⟨u, he, hR _ _ hr⟩
  · exact h.elim
theorem exec_load {ρ : Operand → Value} {o : Oper} {w : World} (t : TypeId) (x : Operand) (ho : o.op = .load t x) (ad : Addr) (hx : ρ x = .pointer (some ad)) (v : Value) (h : (loadVar t ad).run P w = .ok v w) :
    (execOp ρ o).run P w = .ok (.value v) w := by
  unfold execOp
  simp only [ho, hx, Instr.loadAt, Instr.sureAddr, Sem.run_bind, Sem.run_pure, Result.andThen_ok, h]
theorem exec_store {ρ : Operand → Value} {o : Oper} {w w' : World} (t : TypeId) (x y : Operand) (ho : o.op = .store t x y) (ad : Addr) (hx : ρ x = .pointer (some ad)) (v : Value) (hy : ρ y = v) (h : (storeVar t ad v).run P w = .ok () w') :
    (execOp ρ o).run P w = .ok .skip w' := by
  unfold execOp
  simp only [ho, hx, hy, Instr.storeAt, Instr.sureAddr, Sem.run_bind, Sem.run_pure, Result.andThen_ok, h]
theorem exec_alloc {ρ : Operand → Value} {o : Oper} {w : World} (t : TypeId) (ho : o.op = .alloc t) (v : Value) (h : (zeroValue t).run P w = .ok v w) :
    (execOp ρ o).run P w = .ok (.value (.pointer (some ⟨w.heap.size, 0, none⟩))) (w.alloc (.cells v.cells t)) := by
  unfold execOp
  simp only [ho, Instr.alloc, Sem.run_bind, Sem.run_pure, Result.andThen_ok, h]
  rfl
/-- The operations' values: e.nd: a letter; else fixed. -/
def jspec (e : Nat → Option Value) (n : Nat) : List FSpec := (List.range n).map fun k => match e k with | some v => ⟨false, v, fun _ _ => True, true⟩ | none => ⟨true, undef, fun _ _ => True, true⟩
theorem vals_jspec (e : Nat → Option Value) (n : Nat) (ν : Nat → Value) (k : Nat) (hk : k < n) : vals (jspec e n) ν k = (e k).getD (ν k) := by
  unfold vals spAt jspec
  rw [List.getD_eq_getElem?_getD, List.getElem?_map, List.getElem?_range hk]
  simp only [Option.map_some, Option.getD_some]
  cases e k <;> rfl
/-- The frame ahead of operation k. -/
def lexV (ops : Array Oper) (a : Act) (e : Nat → Option Value) (ν : Nat → Value) (k : Nat) : Act := foldP ops a (fun _ => true) (fun j => (e j).getD (ν j)) k

theorem wp_flowJ {id : Nat} {Q : Exit → Act → World → Prop} {a : Act} {w : World} {l : List Oper} (n : Nat) (hm : P.follows .mixedOrders = true) (hB : flowB l.toArray n = true)
    (e : Nat → Option Value) (J : (Nat → Bool) → (Nat → Value) → World → Prop) (h0 : ∀ ν, J (fun _ => false) ν { w with drawn := w.drawn + 1 })
    (hg : ∀ o ∈ l.take n, o.guard = none)
    (hstep : ∀ i o, i < n → l[i]? = some o → ∀ (L : Nat → Bool) ν w, L i = false → (∀ j, Region.waitsFor .any l.toArray i j = true → L j = true) → J L ν w →
      yieldUpon P w (fun u w' => (∀ v, e i = some v → u = v) ∧ J (fun k => k == i || L k) (fun k => if k = i then u else ν k) w') ((execOp (lexV l.toArray a e ν i).eval o).run P w))
    (hend : ∀ (L : Nat → Bool) ν w', (∀ k, k < n → L k = true) → J L ν w' → wpList P l.toArray Q (l.drop n) (lexV l.toArray a e ν n) w') :
    (Code.region id l.toArray true).wp P Q a w := by
  have ok := flowB_spec hB
  have hn : n ≤ l.length := by have := ok.le; simpa using this
  have hlex : ∀ ν k, k ≤ n → lexF l.toArray a (jspec e n) ν k = lexV l.toArray a e ν k := fun ν k hk => by
    unfold lexF lexV
    exact foldP_congr a _ _ _ k fun j hj => vals_jspec e n ν j (by omega)
  refine wp_region_any hm ?_
  -- the invariant
  have key : ∀ (f : Nat) (listed : Array Bool) (a1 : Act) (w1 : World), cnt listed n = f → HeadInv .any l.toArray n listed →
      (∃ ν, a1 = frL l.toArray a (jspec e n) n listed ν ∧ J (fun k => listed.getD k false) ν w1) → wpAny P .any l.toArray Q (f + (l.toArray.size - n)) listed a1 w1 := by
    intro f
    induction f with
    | zero =>
      intro listed a1 w1 hc hd ⟨ν, hfr, hJ⟩
      have hall := cnt_zero hc
      have hfull := listed_full hd hall
      have hlx : a1 = lexV l.toArray a e ν n := by
        rw [hfr, ← hlex ν n (Nat.le_refl _)]
        unfold frL lexF
        refine act_ext (by rw [foldP_size, foldP_size]) (fun t => foldP_at a _ _ _ _ t n fun k hk _ => ⟨hall k hk, fun _ => rfl⟩) (by rw [foldP_defers, foldP_defers])
      have hl := hend _ ν w1 (fun k hk => hall k hk) hJ
      rw [Nat.zero_add]
      have hlen : (l.drop n).length = l.toArray.size - n := by simp
      have := wpAny_of_seq (P := P) (ops := l.toArray) (md := .any) (Q' := Q) (l.drop n) n listed a1 w1 (fun j => by simp [List.getElem?_drop]) (by rw [hlen, hfull]; exact ok.seq) (by rw [hlx]; exact hl)
      rwa [hlen] at this
    | succ f ih =>
      intro listed a1 w1 hc hd ⟨ν, hfr, hJ⟩
      obtain ⟨k, hk, hkl, hkb⟩ := cnt_pos (listed := listed) (n := n) (by omega)
      obtain ⟨ok0, hok0⟩ : ∃ o, l.toArray[k]? = some o := ⟨l.toArray[k]'(by simp; omega), Array.getElem?_eq_getElem _⟩
      have hks : k < listed.size := by rw [hd.size]; simp; omega
      have hkr : k ∈ Region.ready .any l.toArray listed := mem_ready.2 ⟨getD_in hks hkl, ok0, hok0, fun e he hb => hkb _ (ok.back k ok0 hk hok0 e he hb)⟩
      rw [show f + 1 + (l.toArray.size - n) = (f + (l.toArray.size - n)) + 1 by omega]
      refine ⟨fun h0 => (by rw [h0] at hkr; cases hkr), fun i hi => ?_⟩
      obtain ⟨hun0, oi, hoi, hall⟩ := mem_ready.1 hi
      have hin : i < n := by
        rcases Nat.lt_or_ge i n with h | h
        · exact h
        · exfalso
          have hlt : i < l.toArray.size := (Array.getElem?_eq_some_iff.1 hoi).1
          have hn : n < l.toArray.size := by omega
          exact tail_waits (ok.tail hn).1 (ok.tail hn).2 hn hd _ k rfl hk (getD_in hks hkl) i h hi
      have hil : listed.getD i false = false := getD_both hun0
      have his : i < listed.size := by rw [hd.size]; simp; omega
      have hsel := fun cs b => Region.noSelect_spec ok.sel i oi cs b hoi
      have hlooks := frL_looks (a0 := a) (sp := jspec e n) ok hd hin hoi hil hall ν
      have hgi : oi.guard = none := hg oi (by
        have : (l.take n)[i]? = some oi := by rw [List.getElem?_take, if_pos hin]; simpa using hoi
        exact List.mem_of_getElem? this)
      unfold wpOp
      simp only [hoi]
      rw [if_pos (wanted_none hgi)]
      refine .inl ?_
      have hrun := hstep i oi hin (by simpa using hoi) (fun k => listed.getD k false) ν w1 hil (fun j hj => by
        obtain ⟨e', he, hb, hej⟩ := waits_edge hoi hj
        rw [← hej]; exact hall e' he hb) hJ
      rw [← hlex ν i (by omega), ← eval_same hlooks hsel, ← hfr] at hrun
      refine wp_of_yield hrun fun u w' ⟨hu, hJ'⟩ => ih _ _ _ ?_ (hd.set hi hin) ⟨fun k => if k = i then u else ν k, ?_, ?_⟩
      · have := (cnt_set his hil n).1 hin; omega
      · rw [hfr]
        refine frL_put ok hd hin hoi hil ν _ u ?_ fun k hk => ?_
        · rw [vals_jspec e n _ i hin]
          cases he : e i with
          | none => simp
          | some v => simp [hu v he]
        · rcases Nat.lt_or_ge k n with h | h
          · rw [vals_jspec e n _ k h, vals_jspec e n _ k h]; simp [hk]
          · unfold vals spAt jspec
            simp [List.getD_eq_getElem?_getD, List.getElem?_map, List.getElem?_eq_none (show (List.range n).length ≤ k by simpa using h)]
      · have e1 : (fun k => (listed.setIfInBounds i true).getD k false) = fun k => k == i || listed.getD k false := by
          funext k; rw [getD_set_at his]; congr 1
        rw [e1]; exact hJ'
  have inv0 : HeadInv .any l.toArray n (Array.replicate l.toArray.size false) :=
    ⟨by simp, fun j oj _ hl => (by rw [getD_replicate_false] at hl; cases hl), fun t _ ht => getD_in (by simpa using ht) (getD_replicate_false _ _)⟩
  have hcnt : cnt (Array.replicate l.toArray.size false) n = n := by
    unfold cnt
    rw [List.filter_eq_self.2 fun k _ => by rw [getD_replicate_false]; rfl]
    simp
  have := key n _ a _ hcnt inv0 ⟨fun _ => undef, by
    have key2 : ∀ m, foldP l.toArray a (fun k => (Array.replicate l.toArray.size false).getD k false) (vals (jspec e n) fun _ => undef) m = a := by
      intro m
      induction m with
      | zero => rfl
      | succ m ih => rw [foldP, getD_replicate_false, if_neg (by simp), ih]
    exact (key2 n).symm, by
    have e1 : (fun k => (Array.replicate l.toArray.size false).getD k false) = fun _ => false := by funext k; exact getD_replicate_false _ _
    rw [e1]; exact h0 _⟩
  rw [show n + (l.toArray.size - n) = l.toArray.size by have := ok.le; omega] at this
  exact this
end
end Go.Proofs.Ytllnocffmlagjaa
