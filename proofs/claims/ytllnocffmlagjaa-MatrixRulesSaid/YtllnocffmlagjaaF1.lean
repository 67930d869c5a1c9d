/- The same, part 2: whatever order is drawn. Conditions: each theorem names its own. -/
import Derived.Test.YtllnocffmlagjaaF0
set_option linter.unusedVariables false
set_option linter.unusedSimpArgs false
namespace Go.Proofs.Ytllnocffmlagjaa
open Go.RowKit
section
variable {P : Program} {ops : Array Oper} {C : World → Prop} {a0 : Act} {sp : List FSpec} {n : Nat}

theorem getD_set_at {listed : Array Bool} {i k : Nat} (hi : i < listed.size) : (listed.setIfInBounds i true).getD k false = (decide (k = i) || listed.getD k false) := by
  by_cases h : i = k
  · subst h; simp [hi]
  · rw [getD_set_ne false h]
    have : decide (k = i) = false := by simp; omega
    rw [this, Bool.false_or]

theorem frL_put (ok : FlowOK ops n) {listed : Array Bool} (hd : HeadInv .any ops n listed) {i : Nat} {oi : Oper} (hi : i < n) (ho : ops[i]? = some oi)
    (hun : listed.getD i false = false) (ν ν' : Nat → Value) (u : Value) (hv : vals sp ν' i = u) (hν : ∀ k, k ≠ i → vals sp ν' k = vals sp ν k) :
    (frL ops a0 sp n listed ν).put oi.dst u = frL ops a0 sp n (listed.setIfInBounds i true) ν' := by
  have hsz : i < listed.size := by rw [hd.size]; have := ok.le; omega
  have hdi : dstAt ops i = oi.dst := by simp [dstAt, ho]
  refine act_ext ?_ (fun t => ?_) ?_
  · unfold frL; rw [put_size, foldP_size, foldP_size]
  · by_cases ht : oi.dst = some t
    · rw [ht, put_at_eq]
      unfold frL
      rw [foldP_size, foldP_last a0 _ _ t i (by rw [hdi, ht]) (by simp only [getD_set_at hsz]; simp) n hi ?_, hv]
      intro j hij hjn hdj
      simp only [getD_set_at hsz]
      have : decide (j = i) = false := by simp; omega
      rw [this, Bool.false_or]
      cases hl : listed.getD j false with
      | false => rfl
      | true =>
        exfalso
        obtain ⟨oj, hoj⟩ : ∃ o, ops[j]? = some o := ⟨ops[j]'(by have := ok.le; omega), Array.getElem?_eq_getElem _⟩
        have hw : Region.waitsFor .any ops j i = false := waits_false hoj fun e he hb hk' => by
          have := hd.closed j oj hoj hl e he hb
          rw [hk', hun] at this; cases this
        have hap := ok.apart i oi hi ho j oj hij hoj hw
        exact (Oper.apart_spec hap).2.1 t ht (by simpa [dstAt, hoj] using hdj)
    · rw [put_at_ne ht]
      unfold frL
      refine foldP_at a0 _ _ _ _ t n fun k hk hdk => ?_
      have hki : k ≠ i := fun e => ht (by rw [← hdi, ← e]; exact hdk)
      simp only [getD_set_at hsz]
      have : decide (k = i) = false := by simp [hki]
      rw [this, Bool.false_or]
      exact ⟨rfl, fun _ => (hν k hki).symm⟩
  · unfold frL; rw [put_defers', foldP_defers, foldP_defers]

theorem flow_op (ok : FlowOK ops n) (hob : ∀ k o, k < n → ops[k]? = some o → FOb P ops C a0 sp k o) (hC : Lives C) {listed : Array Bool} {a : Act} {w : World}
    (inv : FInv ops C a0 sp n listed a w) {i : Nat} (hi : i < n) (hr : i ∈ Region.ready .any ops listed) {K : Act → World → Prop} {Q : Exit → Act → World → Prop}
    (hK : ∀ a' w', FInv ops C a0 sp n (listed.setIfInBounds i true) a' w' → K a' w') : wpOp P ops Q i K a w := by
  obtain ⟨hun0, oi, ho, hall⟩ := mem_ready.1 hr
  have hun : listed.getD i false = false := getD_both hun0
  have hsz : i < listed.size := by rw [inv.head.size]; have := ok.le; omega
  obtain ⟨ν, hfr, hposts⟩ := inv.fr
  have ob := hob i oi hi ho
  have hsel := fun cs b => Region.noSelect_spec ok.sel i oi cs b ho
  have hlooks := frL_looks (a0 := a0) (sp := sp) ok inv.head hi ho hun hall ν
  unfold wpOp
  simp only [ho]
  rw [hfr, wanted_same hlooks, ob.wanted ν]
  split
  · rename_i hw
    refine .inl ?_
    have hdeps : ∀ j, j < i → Region.waitsFor .any ops i j = true → (spAt sp j).want = true → (spAt sp j).post (vals sp ν j) w := fun j hj hwt hwj => by
      obtain ⟨e, he, hb, hej⟩ := waits_edge ho hwt
      exact hposts j (by omega) (by rw [← hej]; exact hall e he hb) hwj
    have hrun := ob.run hw ν w inv.base hdeps
    unfold flowAt at hrun
    rw [← eval_same hlooks hsel] at hrun
    refine wp_of_flow (R := fun u w' => ((spAt sp i).nd = false → u = (spAt sp i).e) ∧ (spAt sp i).post u w') hrun fun u w' hb ⟨hu, hp⟩ => hK _ _ ?_
    obtain ⟨ν', hν'⟩ : ∃ ν' : Nat → Value, ν' = fun k => if k = i then u else ν k := ⟨_, rfl⟩
    have hvi : vals sp ν' i = u := by
      unfold vals
      rw [hw, Bool.and_true]
      cases hnd : (spAt sp i).nd with
      | true => simp [hν']
      | false => simp [hu hnd]
    have hvk : ∀ k, k ≠ i → vals sp ν' k = vals sp ν k := fun k hk => by
      unfold vals
      rw [hν']
      simp only [if_neg hk]
    refine ⟨inv.head.set hr hi, ⟨ν', frL_put ok inv.head hi ho hun ν ν' u hvi hvk, fun k hk hl hwk => ?_⟩, hC _ _ inv.base hb⟩
    rw [getD_set_at hsz, Bool.or_eq_true, decide_eq_true_eq] at hl
    by_cases hki : k = i
    · subst hki; rw [hvi]; exact hp
    · rw [hvk k hki]
      obtain ⟨ok', hok'⟩ : ∃ o, ops[k]? = some o := ⟨ops[k]'(by have := ok.le; omega), Array.getElem?_eq_getElem _⟩
      exact (hob k ok' hk hok').lives _ _ _ (hposts k hk (hl.resolve_left hki) hwk) hb
  · rename_i hw
    have hw' : (spAt sp i).want = false := by simpa using hw
    have he := ob.idle hw'
    refine hK _ _ ⟨inv.head.set hr hi, ⟨ν, frL_put ok inv.head hi ho hun ν ν undef ?_ (fun _ _ => rfl), fun k hk hl hwk => ?_⟩, inv.base⟩
    · unfold vals; rw [hw', Bool.and_false, if_neg (by simp), he]
    · rw [getD_set_at hsz, Bool.or_eq_true, decide_eq_true_eq] at hl
      by_cases hki : k = i
      · subst hki; rw [hw'] at hwk; cases hwk
      · exact hposts k hk (hl.resolve_left hki) hwk

/-! ### counting what has not come up yet -/
def cnt (listed : Array Bool) (n : Nat) : Nat := ((List.range n).filter (fun k => !listed.getD k false)).length
theorem cnt_set {listed : Array Bool} {i : Nat} (hs : i < listed.size) (hl : listed.getD i false = false) : ∀ n, (i < n → cnt (listed.setIfInBounds i true) n + 1 = cnt listed n) ∧ (n ≤ i → cnt (listed.setIfInBounds i true) n = cnt listed n) := by
  intro n
  induction n with
  | zero => exact ⟨fun h => by omega, fun _ => rfl⟩
  | succ n ih =>
    unfold cnt at *
    simp only [List.range_succ, List.filter_append, List.length_append]
    constructor
    · intro h
      by_cases hn : i = n
      · subst hn
        have h1 := ih.2 (Nat.le_refl _)
        rw [h1]
        have h2 : (listed.setIfInBounds i true).getD i false = true := by rw [getD_set_at hs]; simp
        simp only [List.filter_cons, List.filter_nil, h2, hl]
        simp
      · have h1 := ih.1 (by omega)
        have h2 : (listed.setIfInBounds i true).getD n false = listed.getD n false := by
          rw [getD_set_at hs]; have : decide (n = i) = false := by simp; omega
          rw [this, Bool.false_or]
        have h3 : (List.filter (fun k => !(listed.setIfInBounds i true).getD k false) [n]).length = (List.filter (fun k => !listed.getD k false) [n]).length := by
          simp only [List.filter_cons, List.filter_nil, h2]
        omega
    · intro h
      have h1 := ih.2 (by omega)
      have h2 : (listed.setIfInBounds i true).getD n false = listed.getD n false := by
        rw [getD_set_at hs]; have : decide (n = i) = false := by simp; omega
        rw [this, Bool.false_or]
      have h3 : (List.filter (fun k => !(listed.setIfInBounds i true).getD k false) [n]).length = (List.filter (fun k => !listed.getD k false) [n]).length := by
        simp only [List.filter_cons, List.filter_nil, h2]
      omega
theorem cnt_zero {listed : Array Bool} {n : Nat} (h : cnt listed n = 0) : ∀ k, k < n → listed.getD k false = true := by
  intro k hk
  have := List.eq_nil_of_length_eq_zero h
  have h2 := List.filter_eq_nil_iff.1 this k (List.mem_range.2 hk)
  cases hl : listed.getD k false with
  | true => rfl
  | false => rw [hl] at h2; exact absurd rfl h2
theorem cnt_pos {listed : Array Bool} {n : Nat} (h : cnt listed n ≠ 0) : ∃ k, k < n ∧ listed.getD k false = false ∧ ∀ j, j < k → listed.getD j false = true := by
  have hex : ∃ k, k < n ∧ listed.getD k false = false := by
    apply Classical.byContradiction
    intro hno
    apply h
    unfold cnt
    rw [List.filter_eq_nil_iff.2]
    · rfl
    · intro k hk
      cases hl : listed.getD k false with
      | true => simp
      | false => exact absurd ⟨k, List.mem_range.1 hk, hl⟩ hno
  obtain ⟨k, hk, hl⟩ := hex
  induction k using Nat.strongRecOn with
  | _ k ih =>
    by_cases hj : ∃ j, j < k ∧ listed.getD j false = false
    · obtain ⟨j, hjk, hjl⟩ := hj
      exact ih j hjk (by omega) hjl
    · refine ⟨k, hk, hl, fun j hjk => ?_⟩
      cases h2 : listed.getD j false with
      | true => rfl
      | false => exact absurd ⟨j, hjk, h2⟩ hj

theorem listed_full {listed : Array Bool} (hd : HeadInv .any ops n listed) (h : ∀ k, k < n → listed.getD k false = true) : listed = listedTo ops.size n := by
  apply Array.ext
  · rw [hd.size]; simp [listedTo]
  · intro i h1 h2
    have e2 : (listedTo ops.size n)[i] = decide (i < n) := by simp [listedTo]
    rw [e2]
    by_cases hi : i < n
    · have := h i hi
      rw [decide_eq_true hi]
      simpa [h1] using this
    · have := hd.tail i (by omega) (by rw [← hd.size]; exact h1)
      rw [decide_eq_false hi]
      simpa [h1] using this

theorem flow_any (ok : FlowOK ops n) (hob : ∀ k o, k < n → ops[k]? = some o → FOb P ops C a0 sp k o) (hC : Lives C) {Q : Exit → Act → World → Prop}
    (hend : ∀ ν w, C w → (∀ k, k < n → (spAt sp k).want = true → (spAt sp k).post (vals sp ν k) w) → wpList P ops Q (ops.toList.drop n) (lexF ops a0 sp ν n) w) :
    ∀ (f : Nat) (listed : Array Bool) (a : Act) (w : World), cnt listed n = f → FInv ops C a0 sp n listed a w → wpAny P .any ops Q (f + (ops.size - n)) listed a w := by
  intro f
  induction f with
  | zero =>
    intro listed a w hc inv
    have hall := cnt_zero hc
    have hfull := listed_full inv.head hall
    obtain ⟨ν, hfr, hposts⟩ := inv.fr
    have hlex : a = lexF ops a0 sp ν n := by
      rw [hfr]
      unfold frL lexF
      refine act_ext (by rw [foldP_size, foldP_size]) (fun t => foldP_at a0 _ _ _ _ t n fun k hk _ => ⟨hall k hk, fun _ => rfl⟩) (by rw [foldP_defers, foldP_defers])
    have hl := hend ν w inv.base fun k hk hw => hposts k hk (hall k hk) hw
    rw [Nat.zero_add]
    have hlen : (ops.toList.drop n).length = ops.size - n := by simp
    have := wpAny_of_seq (P := P) (ops := ops) (md := .any) (Q' := Q) (ops.toList.drop n) n listed a w (fun j => by simp [List.getElem?_drop]) (by rw [hlen, hfull]; exact ok.seq) (by rw [hlex]; exact hl)
    rwa [hlen] at this
  | succ f ih =>
    intro listed a w hc inv
    obtain ⟨k, hk, hkl, hkb⟩ := cnt_pos (listed := listed) (n := n) (by omega)
    obtain ⟨o, ho⟩ : ∃ o, ops[k]? = some o := ⟨ops[k]'(by have := ok.le; omega), Array.getElem?_eq_getElem _⟩
    have hks : k < listed.size := by rw [inv.head.size]; have := ok.le; omega
    have hkr : k ∈ Region.ready .any ops listed := mem_ready.2 ⟨getD_in hks hkl, o, ho, fun e he hb => hkb _ (ok.back k o hk ho e he hb)⟩
    rw [show f + 1 + (ops.size - n) = (f + (ops.size - n)) + 1 by omega]
    refine ⟨fun h0 => (by rw [h0] at hkr; cases hkr), fun i hi => ?_⟩
    have hin : i < n := by
      rcases Nat.lt_or_ge i n with h | h
      · exact h
      · exfalso
        obtain ⟨_, oi, hoi, _⟩ := mem_ready.1 hi
        have hlt : i < ops.size := (Array.getElem?_eq_some_iff.1 hoi).1
        have hn : n < ops.size := by omega
        exact tail_waits (ok.tail hn).1 (ok.tail hn).2 hn inv.head _ k rfl hk (getD_in hks hkl) i h hi
    have hil : listed.getD i false = false := getD_both (mem_ready.1 hi).1
    have his : i < listed.size := by rw [inv.head.size]; have := ok.le; omega
    refine flow_op ok hob hC inv hin hi fun a' w' inv' => ih _ a' w' ?_ inv'
    have := (cnt_set his hil n).1 hin
    omega

/-! ### the walk in the text's order -/
/-- C: what holds of every world of the region; facts: what is told of the values that are not fixed, by their operations' numbers; A: the frame, in which such a value stands as 'ν k'. -/
def flowW (P : Program) (ops : Array Oper) (C : World → Prop) (Q : ((Nat → Value) → World → Prop) → ((Nat → Value) → Act) → Prop) :
    List Oper → Nat → (Nat → (Nat → Value) → World → Prop) → ((Nat → Value) → World → Prop) → ((Nat → Value) → Act) → Prop
  | [], _, _, G, A => Q G A
  | o :: rest, k, D, G, A => ∃ s : FSpec, (∀ u, Lives (s.post u)) ∧ (∀ ν, Region.wanted o (yielded ops (A ν).tmps) = s.want) ∧
      (s.want = true → ∀ ν w, C w → D k ν w → flowAt P o (A ν) w (fun u w' => (s.nd = false → u = s.e) ∧ s.post u w')) ∧ (s.want = false → s.e = undef) ∧
      flowW P ops C Q rest (k + 1)
        (if s.nd && s.want then fun i ν w => D i ν w ∧ (Region.waitsFor .any ops i k = true → s.post (ν k) w) else D)
        (if s.nd && s.want then fun ν w => G ν w ∧ s.post (ν k) w else G)
        (fun ν => (A ν).put o.dst (if s.nd && s.want then ν k else s.e))

theorem lexF_succ (ν : Nat → Value) (k : Nat) : lexF ops a0 sp ν (k + 1) = (lexF ops a0 sp ν k).put (dstAt ops k) (vals sp ν k) := by
  unfold lexF; rw [foldP, if_pos rfl]
theorem foldP_congr (a : Act) (p : Nat → Bool) (v u : Nat → Value) : ∀ k, (∀ j, j < k → v j = u j) → foldP ops a p v k = foldP ops a p u k := by
  intro k
  induction k with
  | zero => intro _; rfl
  | succ k ih => intro h; unfold foldP; rw [ih fun j hj => h j (by omega), h k (by omega)]

/-- The walk gives what is told of each operation. -/
theorem flowW_spec {Q : ((Nat → Value) → World → Prop) → ((Nat → Value) → Act) → Prop} (a0 : Act) :
    ∀ (l : List Oper) (k : Nat) (D : Nat → (Nat → Value) → World → Prop) (G : (Nat → Value) → World → Prop) (A : (Nat → Value) → Act) (pre : List FSpec),
      pre.length = k → (∀ j, j < l.length → l[j]? = ops[k + j]?) → (∀ ν, A ν = lexF ops a0 pre ν k) →
      (∀ i ν w, (∀ j, j < k → Region.waitsFor .any ops i j = true → (spAt pre j).want = true → (spAt pre j).post (vals pre ν j) w) → D i ν w) →
      (∀ ν w, (∀ j, j < k → (spAt pre j).want = true → (spAt pre j).post (vals pre ν j) w) → G ν w) →
      (∀ j o, j < k → ops[j]? = some o → FOb P ops C a0 pre j o) →
      flowW P ops C Q l k D G A →
      ∃ (sp : List FSpec) (G' : (Nat → Value) → World → Prop) (A' : (Nat → Value) → Act), sp.length = k + l.length ∧ (∀ j o, j < k + l.length → ops[j]? = some o → FOb P ops C a0 sp j o) ∧
        (∀ ν, A' ν = lexF ops a0 sp ν (k + l.length)) ∧ (∀ ν w, (∀ j, j < k + l.length → (spAt sp j).want = true → (spAt sp j).post (vals sp ν j) w) → G' ν w) ∧ Q G' A' := by
  intro l
  induction l with
  | nil =>
    intro k D G A pre hlen _ hA hD hG hob h
    exact ⟨pre, G, A, by simpa using hlen, by simpa using hob, by simpa using hA, by simpa using hG, h⟩
  | cons o rest ih =>
    intro k D G A pre hlen hl hA hD hG hob h
    obtain ⟨s, hlive, hwant, hrun, hidle, hrest⟩ := h
    have ho : ops[k]? = some o := by have := hl 0 (by simp); simpa using this.symm
    have hdk : dstAt ops k = o.dst := by simp [dstAt, ho]
    have hold : ∀ j, j < k → spAt (pre ++ [s]) j = spAt pre j := fun j hj => by
      unfold spAt; rw [List.getD_eq_getElem?_getD, List.getElem?_append_left (by omega), ← List.getD_eq_getElem?_getD]
    have hnew : spAt (pre ++ [s]) k = s := by
      unfold spAt; rw [List.getD_eq_getElem?_getD, List.getElem?_append_right (by omega), hlen]; simp
    have vold : ∀ ν j, j < k → vals (pre ++ [s]) ν j = vals pre ν j := fun ν j hj => by unfold vals; rw [hold j hj]
    have vnew : ∀ ν, vals (pre ++ [s]) ν k = if s.nd && s.want then ν k else s.e := fun ν => by unfold vals; rw [hnew]
    have lold : ∀ ν j, j ≤ k → lexF ops a0 (pre ++ [s]) ν j = lexF ops a0 pre ν j := fun ν j hj => by
      unfold lexF; exact foldP_congr a0 _ _ _ j fun i hi => vold ν i (by omega)
    obtain ⟨sp, G', A', h1, h2, h3, h4, h5⟩ := ih (k + 1) _ _ _ (pre ++ [s]) (by simp [hlen]) (fun j hj => by
        have := hl (j + 1) (by simp; omega)
        simpa [Nat.add_assoc, Nat.add_comm 1 j] using this)
      (fun ν => by rw [lexF_succ, lold ν k (Nat.le_refl _), hA ν, hdk, vnew])
      (fun i ν w hp => by
        have hDi : D i ν w := hD i ν w fun j hj hwt hwj => by
          have := hp j (by omega) hwt (by rw [hold j hj]; exact hwj)
          rwa [hold j hj, vold ν j hj] at this
        split
        · rename_i hc
          simp only [Bool.and_eq_true] at hc
          refine ⟨hDi, fun hwt => ?_⟩
          have := hp k (by omega) hwt (by rw [hnew]; exact hc.2)
          rwa [hnew, vnew, if_pos (by simp [hc.1, hc.2])] at this
        · exact hDi)
      (fun ν w hp => by
        have hGi : G ν w := hG ν w fun j hj hwj => by
          have := hp j (by omega) (by rw [hold j hj]; exact hwj)
          rwa [hold j hj, vold ν j hj] at this
        split
        · rename_i hc
          simp only [Bool.and_eq_true] at hc
          refine ⟨hGi, ?_⟩
          have := hp k (by omega) (by rw [hnew]; exact hc.2)
          rwa [hnew, vnew, if_pos (by simp [hc.1, hc.2])] at this
        · exact hGi)
      (fun j oj hj hoj => by
        by_cases hjk : j = k
        · subst hjk
          have : oj = o := Option.some.inj (hoj.symm.trans ho)
          subst this
          refine ⟨by rw [hnew]; exact hlive, fun ν => by rw [lold ν _ (Nat.le_refl _), hnew, ← hA ν]; exact hwant ν, fun hw ν w hCw hdeps => ?_, by rw [hnew]; exact hidle⟩
          rw [hnew] at hw ⊢
          rw [lold ν _ (Nat.le_refl _), ← hA ν]
          refine hrun hw ν w hCw (hD _ ν w fun i hi hwt hwi => ?_)
          have := hdeps i hi hwt (by rw [hold i hi]; exact hwi)
          rwa [hold i hi, vold ν i hi] at this
        · have hjk' : j < k := by omega
          have ob := hob j oj hjk' hoj
          refine ⟨by rw [hold j hjk']; exact ob.lives, fun ν => by rw [lold ν _ (by omega), hold j hjk']; exact ob.wanted ν, fun hw ν w hCw hdeps => ?_, by rw [hold j hjk']; exact ob.idle⟩
          rw [hold j hjk'] at hw ⊢
          rw [lold ν _ (by omega)]
          refine ob.run hw ν w hCw fun i hi hwt hwi => ?_
          have := hdeps i hi hwt (by rw [hold i (by omega)]; exact hwi)
          rwa [hold i (by omega), vold ν i (by omega)] at this)
      hrest
    have e : k + 1 + rest.length = k + (o :: rest).length := by simp; omega
    rw [e] at h1 h2 h3 h4
    exact ⟨sp, G', A', h1, h2, h3, h4, h5⟩

/-- **A region that draws its order: one walk of the text's order.** n: how many operations are walked so; the others stand behind them in any order, and are walked on as a list. -/
theorem wp_flow {id : Nat} {Q : Exit → Act → World → Prop} {a : Act} {w : World} {l : List Oper} (n : Nat) (hm : P.follows .mixedOrders = true) (hB : flowB l.toArray n = true)
    (C : World → Prop) (hC : Lives C) (hCw : C { w with drawn := w.drawn + 1 })
    (h : flowW P l.toArray C (fun G A => ∀ ν w', C w' → G ν w' → wpList P l.toArray Q (l.drop n) (A ν) w') (l.take n) 0 (fun _ _ _ => True) (fun _ _ => True) (fun _ => a)) :
    (Code.region id l.toArray true).wp P Q a w := by
  have ok := flowB_spec hB
  have hn : n ≤ l.length := by have := ok.le; simpa using this
  have htl : (l.take n).length = n := by simp; omega
  obtain ⟨sp, G', A', h1, h2, h3, h4, h5⟩ := flowW_spec (P := P) (ops := l.toArray) (C := C) a (l.take n) 0 _ _ _ [] rfl (fun j hj => by
      have hj' : j < n := by rw [htl] at hj; exact hj
      simp [hj']) (fun ν => rfl) (fun _ _ _ _ => trivial) (fun _ _ _ => trivial) (fun j o hj => by omega) h
  rw [htl, Nat.zero_add] at h1 h2 h3 h4
  refine wp_region_any hm ?_
  have inv0 : FInv l.toArray C a sp n (Array.replicate l.toArray.size false) a { w with drawn := w.drawn + 1 } := by
    refine ⟨⟨by simp, fun j oj _ hl => (by rw [getD_replicate_false] at hl; cases hl), fun t _ ht => getD_in (by simpa using ht) (getD_replicate_false _ _)⟩, ⟨fun _ => undef, ?_, fun k _ hl => by rw [getD_replicate_false] at hl; cases hl⟩, hCw⟩
    have key : ∀ m, foldP l.toArray a (fun k => (Array.replicate l.toArray.size false).getD k false) (vals sp fun _ => undef) m = a := by
      intro m
      induction m with
      | zero => rfl
      | succ m ih => rw [foldP, getD_replicate_false, if_neg (by simp), ih]
    exact (key n).symm
  have hcnt : cnt (Array.replicate l.toArray.size false) n = n := by
    unfold cnt
    rw [List.filter_eq_self.2 fun k _ => by rw [getD_replicate_false]; rfl]
    simp
  have := flow_any (Q := Q) ok (fun k o hk ho => h2 k o hk ho) hC (fun ν w' hw' hp => by
    have := h5 ν w' hw' (h4 ν w' hp)
    rw [h3 ν] at this
    simpa using this) n _ a _ hcnt inv0
  rw [show n + (l.toArray.size - n) = l.toArray.size by have := ok.le; omega] at this
  exact this
end
end Go.Proofs.Ytllnocffmlagjaa
