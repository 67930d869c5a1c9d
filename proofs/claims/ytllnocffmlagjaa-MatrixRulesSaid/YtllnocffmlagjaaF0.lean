/- A region that draws its order, walked once in the text's order, where operations may also make memory: what an operation yields is told by a fact that lives on while memory grows. Conditions: each theorem names its own. -/
import Derived.Test.YtllnocffmlagjaaM0
import Derived.StillTail
set_option linter.unusedVariables false
set_option linter.unusedSimpArgs false
namespace Go.Proofs.Ytllnocffmlagjaa
open Go.RowKit

/-- A call comes back with a value; the world has grown; R tells of both. -/
def RetIn (w : World) (R : Value → World → Prop) (e : Ending) (w' : World) : Prop := ∃ u, e = .returned u ∧ Below w.heap.size w w' ∧ R u w'
/-- What an operation yields: R of its value and of the world behind it; the world has grown. -/
def flowUpon (P : Program) (w : World) (R : Value → World → Prop) : Result Next → Prop
  | .ok (.value u) w' => Below w.heap.size w w' ∧ R u w'
  | .ok .skip w' => Below w.heap.size w w' ∧ R undef w'
  | .ok (.enter f args) w' => Below w.heap.size w w' ∧ Calls P f args w' (RetIn w' R)
  | _ => False
def flowAt (P : Program) (o : Oper) (a : Act) (w : World) (R : Value → World → Prop) : Prop := flowUpon P w R ((execOp a.eval o).run P w)

section
variable {P : Program} {ops : Array Oper}
theorem flowUpon_mono {w : World} {R R' : Value → World → Prop} {r : Result Next} (h : flowUpon P w R r) (hR : ∀ u w', R u w' → R' u w') : flowUpon P w R' r := by
  unfold flowUpon at *
  split at h
  · exact ⟨h.1, hR _ _ h.2⟩
  · exact ⟨h.1, hR _ _ h.2⟩
  · exact ⟨h.1, h.2.mono fun e w'' ⟨u, he, hb, hr⟩ => ⟨u, he, hb, hR _ _ hr⟩⟩
  · exact h.elim
theorem wp_of_flow {o : Oper} {a : Act} {w : World} {R : Value → World → Prop} {K : Act → World → Prop} {Q : Exit → Act → World → Prop} (h : flowAt P o a w R)
    (hK : ∀ u w', Below w.heap.size w w' → R u w' → K (a.put o.dst u) w') : o.wp P a w K Q := by
  unfold flowAt at h
  unfold Oper.wp
  generalize (execOp a.eval o).run P w = r at *
  unfold flowUpon at h
  split at h
  · exact hK _ _ h.1 h.2
  · exact hK _ _ h.1 h.2
  · exact h.2.mono fun e w'' ⟨u, he, hb, hr⟩ => by subst he; exact hK _ _ (Ext.trans h.1 hb) hr
  · exact h.elim

/-! ### frames: some of the first k operations have put their values -/
def dstAt (ops : Array Oper) (k : Nat) : Option Tmp := (ops[k]?).bind (·.dst)
def foldP (ops : Array Oper) (a : Act) (p : Nat → Bool) (v : Nat → Value) : Nat → Act
  | 0 => a
  | k + 1 => if p k then (foldP ops a p v k).put (dstAt ops k) (v k) else foldP ops a p v k
theorem put_size (a : Act) (d : Option Tmp) (v : Value) : (a.put d v).tmps.size = a.tmps.size := by cases d <;> simp [Act.put]
theorem put_defers' (a : Act) (d : Option Tmp) (v : Value) : (a.put d v).defers = a.defers := by cases d <;> rfl
theorem foldP_size (a : Act) (p : Nat → Bool) (v : Nat → Value) (k : Nat) : (foldP ops a p v k).tmps.size = a.tmps.size := by
  induction k with
  | zero => rfl
  | succ k ih => unfold foldP; split <;> simp [put_size, ih]
theorem foldP_defers (a : Act) (p : Nat → Bool) (v : Nat → Value) (k : Nat) : (foldP ops a p v k).defers = a.defers := by
  induction k with
  | zero => rfl
  | succ k ih => unfold foldP; split <;> simp [put_defers', ih]
theorem put_at_ne {a : Act} {d : Option Tmp} {v : Value} {t : Tmp} (h : d ≠ some t) : (a.put d v).tmps[t]? = a.tmps[t]? := by
  cases d with
  | none => rfl
  | some e => simp only [Act.put]; exact Array.getElem?_setIfInBounds_ne (fun he => h (by rw [he]))
theorem put_at_eq {a : Act} {v : Value} {t : Tmp} : (a.put (some t) v).tmps[t]? = if t < a.tmps.size then some v else none := by
  simp only [Act.put, Array.getElem?_setIfInBounds]
  simp
theorem foldP_at (a : Act) (p q : Nat → Bool) (v u : Nat → Value) (t : Tmp) : ∀ k, (∀ j, j < k → dstAt ops j = some t → p j = q j ∧ (p j = true → v j = u j)) →
    (foldP ops a p v k).tmps[t]? = (foldP ops a q u k).tmps[t]? := by
  intro k
  induction k with
  | zero => intro _; rfl
  | succ k ih =>
    intro h
    have ih' := ih fun j hj => h j (by omega)
    by_cases hd : dstAt ops k = some t
    · obtain ⟨h1, h2⟩ := h k (by omega) hd
      unfold foldP
      rw [← h1]
      split
      · rename_i hp
        rw [hd, put_at_eq, put_at_eq, foldP_size, foldP_size, h2 hp]
      · exact ih'
    · unfold foldP
      split <;> split <;> (try simp only [put_at_ne hd]) <;> exact ih'
theorem foldP_last (a : Act) (p : Nat → Bool) (v : Nat → Value) (t : Tmp) (i : Nat) (hi : dstAt ops i = some t) (hp : p i = true) : ∀ k, i < k → (∀ j, i < j → j < k → dstAt ops j = some t → p j = false) →
    (foldP ops a p v k).tmps[t]? = if t < a.tmps.size then some (v i) else none := by
  intro k
  induction k with
  | zero => intro h; omega
  | succ k ih =>
    intro hik h
    by_cases hk : i = k
    · subst hk
      unfold foldP
      rw [if_pos hp, hi, put_at_eq, foldP_size]
    · have ih' := ih (by omega) fun j h1 h2 => h j h1 (by omega)
      unfold foldP
      split
      · rename_i hpk
        by_cases hd : dstAt ops k = some t
        · rw [h k (by omega) (by omega) hd] at hpk; cases hpk
        · rw [put_at_ne hd]; exact ih'
      · exact ih'
theorem act_ext {a b : Act} (hs : a.tmps.size = b.tmps.size) (h : ∀ t : Nat, a.tmps[t]? = b.tmps[t]?) (hd : a.defers = b.defers) : a = b := by
  cases a; cases b
  simp only at *
  congr 1
  exact Array.ext_getElem? h

/-! ### what is told of each operation -/
structure FSpec where
  nd : Bool
  e : Value
  post : Value → World → Prop
  want : Bool
def spAt (sp : List FSpec) (k : Nat) : FSpec := sp.getD k ⟨false, undef, fun _ _ => True, false⟩
def vals (sp : List FSpec) (ν : Nat → Value) (k : Nat) : Value := if (spAt sp k).nd && (spAt sp k).want then ν k else (spAt sp k).e
/-- The frame ahead of operation k, in the text's order. -/
def lexF (ops : Array Oper) (a : Act) (sp : List FSpec) (ν : Nat → Value) (k : Nat) : Act := foldP ops a (fun _ => true) (vals sp ν) k
def Lives (C : World → Prop) : Prop := ∀ w w', C w → Below w.heap.size w w' → C w'
structure FOb (P : Program) (ops : Array Oper) (C : World → Prop) (a : Act) (sp : List FSpec) (k : Nat) (o : Oper) : Prop where
  lives : ∀ u, Lives ((spAt sp k).post u)
  wanted : ∀ ν, Region.wanted o (yielded ops (lexF ops a sp ν k).tmps) = (spAt sp k).want
  run : (spAt sp k).want = true → ∀ ν w, C w → (∀ j, j < k → Region.waitsFor .any ops k j = true → (spAt sp j).want = true → (spAt sp j).post (vals sp ν j) w) →
    flowAt P o (lexF ops a sp ν k) w (fun u w' => ((spAt sp k).nd = false → u = (spAt sp k).e) ∧ (spAt sp k).post u w')
  idle : (spAt sp k).want = false → (spAt sp k).e = undef

/-- The static side: edges go back; who does not wait for an earlier operation is apart from it; behind the first n operations the others come one by one. -/
def listedTo (m n : Nat) : Array Bool := ((List.range m).map (fun k => decide (k < n))).toArray
def flowB (ops : Array Oper) (n : Nat) : Bool :=
  Region.noSelect ops && decide (n ≤ ops.size) &&
  ((List.range n).all fun i => match ops[i]? with
    | some oi => (oi.after.all fun e => !Region.binds .any e || decide (e.on < i)) && ((List.range ops.size).all fun j => decide (j ≤ i) || Region.waitsFor .any ops j i || match ops[j]? with | some oj => oi.apart ops oj | none => true)
    | none => false) &&
  (decide (n = ops.size) || (Region.sinkB .any ops n && Region.chainB .any ops n)) &&
  Region.seqB .any ops (ops.size - n) n (listedTo ops.size n)
structure FlowOK (ops : Array Oper) (n : Nat) : Prop where
  sel : Region.noSelect ops = true
  le : n ≤ ops.size
  back : ∀ i oi, i < n → ops[i]? = some oi → ∀ e ∈ oi.after, Region.binds .any e = true → e.on < i
  apart : ∀ i oi, i < n → ops[i]? = some oi → ∀ j oj, i < j → ops[j]? = some oj → Region.waitsFor .any ops j i = false → oi.apart ops oj = true
  tail : n < ops.size → Region.sinkB .any ops n = true ∧ Region.chainB .any ops n = true
  seq : Region.seqB .any ops (ops.size - n) n (listedTo ops.size n) = true
theorem flowB_spec {n : Nat} (h : flowB ops n = true) : FlowOK ops n := by
  simp only [flowB, Bool.and_eq_true, decide_eq_true_eq, List.all_eq_true, List.mem_range] at h
  obtain ⟨⟨⟨⟨h1, h2⟩, h3⟩, h4⟩, h5⟩ := h
  refine ⟨h1, h2, fun i oi hi ho e he hb => ?_, fun i oi hi ho j oj hij hoj hw => ?_, fun hn => ?_, h5⟩
  · have h := h3 i hi
    simp only [ho, Bool.and_eq_true, Array.all_eq_true_iff_forall_mem, Bool.or_eq_true, decide_eq_true_eq] at h
    rcases h.1 e he with h | h
    · rw [hb] at h; cases h
    · exact h
  · have h := h3 i hi
    simp only [ho, Bool.and_eq_true, List.all_eq_true, List.mem_range, Bool.or_eq_true, decide_eq_true_eq] at h
    have h := h.2 j (Array.getElem?_eq_some_iff.1 hoj).1
    simp only [hoj, hw] at h
    rcases h with (h | h) | h
    · omega
    · cases h
    · exact h
  · simp only [Bool.or_eq_true, decide_eq_true_eq, Bool.and_eq_true] at h4
    rcases h4 with h4 | h4
    · omega
    · exact h4

theorem waits_false {i j : Nat} {oi : Oper} (ho : ops[i]? = some oi) (h : ∀ e ∈ oi.after, Region.binds .any e = true → e.on ≠ j) : Region.waitsFor .any ops i j = false := by
  unfold Region.waitsFor
  rw [ho]
  simp only [Array.any_eq_false', Bool.and_eq_true, beq_iff_eq, not_and]
  intro e he hb
  exact h e he hb
theorem waits_edge {i j : Nat} {oi : Oper} (ho : ops[i]? = some oi) (h : Region.waitsFor .any ops i j = true) : ∃ e ∈ oi.after, Region.binds .any e = true ∧ e.on = j := by
  obtain ⟨o', ho', e, he, hb, hj⟩ := Region.waitsFor_spec h
  rw [ho] at ho'
  cases ho'
  exact ⟨e, he, hb, hj⟩

/-- The frame when the operations of 'listed' have come up. -/
def frL (ops : Array Oper) (a0 : Act) (sp : List FSpec) (n : Nat) (listed : Array Bool) (ν : Nat → Value) : Act := foldP ops a0 (fun k => listed.getD k false) (vals sp ν) n

structure FInv (ops : Array Oper) (C : World → Prop) (a0 : Act) (sp : List FSpec) (n : Nat) (listed : Array Bool) (a : Act) (w : World) : Prop where
  head : HeadInv .any ops n listed
  fr : ∃ ν, a = frL ops a0 sp n listed ν ∧ ∀ k, k < n → listed.getD k false = true → (spAt sp k).want = true → (spAt sp k).post (vals sp ν k) w
  base : C w

section
variable {C : World → Prop} {a0 : Act} {sp : List FSpec} {n : Nat}
/-- Operation i, ready, sees in the frame at hand what it sees in the text's order. -/
theorem frL_looks (ok : FlowOK ops n) {listed : Array Bool} (hd : HeadInv .any ops n listed) {i : Nat} {oi : Oper} (hi : i < n) (ho : ops[i]? = some oi)
    (hun : listed.getD i false = false) (hall : ∀ e ∈ oi.after, Region.binds .any e = true → listed.getD e.on false = true) (ν : Nat → Value) (t : Tmp) (ht : t ∈ oi.looksAt ops) :
    (frL ops a0 sp n listed ν).tmps[t]? = (lexF ops a0 sp ν i).tmps[t]? := by
  have e1 : lexF ops a0 sp ν i = foldP ops a0 (fun k => decide (k < i)) (vals sp ν) n := by
    have key : ∀ m, m ≤ n → foldP ops a0 (fun k => decide (k < i)) (vals sp ν) m = foldP ops a0 (fun _ => true) (vals sp ν) (min m i) := by
      intro m
      induction m with
      | zero => intro _; simp [foldP]
      | succ m ih =>
        intro hm
        have ih' := ih (by omega)
        by_cases hmi : m < i
        · have h1 : min (m + 1) i = min m i + 1 := by omega
          have h2 : min m i = m := by omega
          rw [h1, foldP, if_pos (by simpa using hmi), ih', foldP, if_pos rfl, h2]
        · have h1 : min (m + 1) i = min m i := by omega
          rw [h1, foldP, if_neg (by simpa using hmi), ih']
    rw [key n (Nat.le_refl _), show min n i = i by omega]; rfl
  rw [e1]
  refine foldP_at a0 _ _ _ _ t n fun k hk hdk => ⟨?_, fun _ => rfl⟩
  obtain ⟨ok', hok'⟩ : ∃ o, ops[k]? = some o := ⟨ops[k]'(by have := ok.le; omega), Array.getElem?_eq_getElem _⟩
  have hdst : ok'.dst = some t := by simpa [dstAt, hok'] using hdk
  by_cases hki : k < i
  · rw [decide_eq_true hki]
    cases hl : listed.getD k false with
    | true => rfl
    | false =>
      exfalso
      have hw : Region.waitsFor .any ops i k = false := waits_false ho fun e he hb hk' => by
        have := hall e he hb
        rw [hk', hl] at this; cases this
      have hap := ok.apart k ok' hk hok' i oi hki ho hw
      exact (Oper.apart_spec hap).1 t hdst ht
  · rw [decide_eq_false hki]
    cases hl : listed.getD k false with
    | false => rfl
    | true =>
      exfalso
      have hki' : i < k := by
        rcases Nat.lt_or_eq_of_le (Nat.le_of_not_lt hki) with h | h
        · exact h
        · rw [← h, hun] at hl; cases hl
      have hw : Region.waitsFor .any ops k i = false := waits_false hok' fun e he hb hk' => by
        have := hd.closed k ok' hok' hl e he hb
        rw [hk', hun] at this; cases this
      have hap := ok.apart i oi hi ho k ok' hki' hok' hw
      exact (Oper.apart_spec hap).2.2 t hdst ht
theorem eval_same {a b : Act} {o : Oper} (h : ∀ t ∈ o.looksAt ops, a.tmps[t]? = b.tmps[t]?) (hs : ∀ cs b, o.op ≠ .select cs b) : execOp a.eval o = execOp b.eval o :=
  execOp_congr o hs fun x hx => by
    cases x with
    | tmp t =>
      have ht := h t (List.mem_append_left _ (List.mem_filterMap.2 ⟨.tmp t, by simpa using hx, rfl⟩))
      simp only [Act.eval, Array.getD_eq_getD_getElem?, ht]
    | _ => rfl
theorem wanted_same {a b : Act} {o : Oper} (h : ∀ t ∈ o.looksAt ops, a.tmps[t]? = b.tmps[t]?) : Region.wanted o (yielded ops a.tmps) = Region.wanted o (yielded ops b.tmps) := by
  unfold Region.wanted
  cases hg : o.guard with
  | none => rfl
  | some gw =>
    obtain ⟨g, want⟩ := gw
    have hy : yielded ops a.tmps g = yielded ops b.tmps g := by
      unfold yielded
      cases ht : (ops[g]?).bind (·.dst) with
      | none => rfl
      | some t =>
        have := h t (by simp [Oper.looksAt, hg, ht])
        simp only [Option.bind_some, this]
    simp only [hy]
end
end
end Go.Proofs.Ytllnocffmlagjaa
