/- Contract of matrix.reduce. Conditions: the rows lie in an outer row of the call's own; the field lies. -/
import Derived.Test.YtllnocffmlagjaaY6
set_option linter.unusedVariables false
set_option linter.unusedSimpArgs false
namespace Go.Proofs.Ytllnocffmlagjaa
open Go.RowKit
attribute [local go_sem] flowAt flowUpon v8_xor

/-! ### what reduce does, step by step -/
def elimR (rows : List (List UInt8)) (n p c : Nat) : List (List UInt8) :=
  (List.range n).map fun k => if k = p then scaleL (iv ((rows.getD p []).getD c 0)) (rows.getD p []) else rowAdd (rows.getD k []) ((rows.getD k []).getD c 0) (scaleL (iv ((rows.getD p []).getD c 0)) (rows.getD p []))
def swapR (rows : List (List UInt8)) (p i : Nat) : List (List UInt8) := (rows.set p (rows.getD i [])).set i (rows.getD p [])
inductive Red (rows : List (List UInt8)) (n : Nat) : Nat → List Nat → List (List UInt8) → Prop
  | start : Red rows n 0 [] rows
  | skip {c : Nat} {ls : List Nat} {R : List (List UInt8)} : Red rows n c ls R → (∀ i, ls.length ≤ i → i < n → (R.getD i []).getD c 0 = 0) → Red rows n (c + 1) ls R
  | step {c : Nat} {ls : List Nat} {R : List (List UInt8)} (i : Nat) : Red rows n c ls R → ls.length ≤ i → i < n → (R.getD i []).getD c 0 ≠ 0 → Red rows n (c + 1) (ls ++ [c]) (elimR (swapR R ls.length i) n ls.length c)
theorem Red.full {rows : List (List UInt8)} {n c : Nat} {ls : List Nat} {R : List (List UInt8)} (h : Red rows n c ls R) (hl : n ≤ ls.length) (d : Nat) : Red rows n (c + d) ls R := by
  induction d with
  | zero => exact h
  | succ d ih => exact ih.skip fun i h1 h2 => by omega
theorem swapR_rect {R : List (List UInt8)} {n c : Nat} (h : Rect R n c) (p i : Nat) (hp : p < n) (hi : i < n) : Rect (swapR R p i) n c := by
  refine ⟨by simp [swapR, h.len], fun j hj => ?_, h.n1, h.c1, h.n100, h.c100⟩
  unfold swapR
  by_cases e : i = j
  · subst e
    rw [getD_set_eq _ _ _ _ (by rw [List.length_set, h.len]; exact hj)]; exact h.col p hp
  · rw [getD_set_other _ _ _ _ _ e]
    by_cases e' : p = j
    · subst e'
      rw [getD_set_eq _ _ _ _ (by rw [h.len]; exact hj)]; exact h.col i hi
    · rw [getD_set_other _ _ _ _ _ e']; exact h.col j hj
theorem scaleL_length (c : UInt8) (bs : List UInt8) : (scaleL c bs).length = bs.length := by simp [scaleL]
theorem elimR_at (R : List (List UInt8)) (n p c k : Nat) (hk : k < n) : (elimR R n p c).getD k [] = if k = p then scaleL (iv ((R.getD p []).getD c 0)) (R.getD p []) else rowAdd (R.getD k []) ((R.getD k []).getD c 0) (scaleL (iv ((R.getD p []).getD c 0)) (R.getD p [])) := by
  simp [elimR, List.getD_eq_getElem?_getD, hk]
theorem elimR_rect {R : List (List UInt8)} {n c : Nat} (h : Rect R n c) (p d : Nat) (hp : p < n) : Rect (elimR R n p d) n c := by
  refine ⟨by simp [elimR], fun j hj => ?_, h.n1, h.c1, h.n100, h.c100⟩
  rw [elimR_at _ _ _ _ _ hj]
  split
  · rw [scaleL_length, h.col p hp]
  · rw [rowAdd_length _ _ _ (by rw [scaleL_length, h.col p hp, h.col j hj]), h.col j hj]
theorem Red.rect {rows : List (List UInt8)} {n c cc : Nat} {ls : List Nat} {R : List (List UInt8)} (hr : Rect rows n cc) (h : Red rows n c ls R) : Rect R n cc := by
  induction h with
  | start => exact hr
  | skip _ _ ih => exact ih
  | step i _ h1 h2 _ ih => exact elimR_rect (swapR_rect ih _ _ (by omega) h2) _ _ (by omega)
theorem Red.len {rows : List (List UInt8)} {n c : Nat} {ls : List Nat} {R : List (List UInt8)} (h : Red rows n c ls R) : ls.length ≤ n := by
  induction h with
  | start => exact Nat.zero_le _
  | skip _ _ ih => exact ih
  | step i _ h1 h2 _ ih => simp; omega

theorem LR.cap_le {w0 w : World} {G L cap : Nat} {vs : List Value} {rows : List (List UInt8)} (h : LR w0 w G L cap vs rows) : L ≤ cap := by
  rcases h.row.2 with ⟨h1, _⟩ | ⟨g, c, cur, h1, _, _, h4, _⟩
  · cases h1
  · cases h1; exact h4
theorem swapR_at (R : List (List UInt8)) (p i : Nat) (hp : p < R.length) (hi : i < R.length) : (swapR R p i).getD p [] = R.getD i [] := by
  unfold swapR
  by_cases e : i = p
  · subst e; exact getD_set_eq _ _ _ _ (by rw [List.length_set]; exact hi)
  · rw [getD_set_other _ _ _ _ _ e, getD_set_eq _ _ _ _ hp]
theorem mixG_getD {α : Type} (E Z : List α) (d : α) (k j : Nat) (hk : k ≤ E.length) : (E.take k ++ Z.drop k).getD j d = if j < k then E.getD j d else Z.getD j d := by
  have h1 : (E.take k).length = k := by simp; omega
  rw [List.getD_eq_getElem?_getD, List.getD_eq_getElem?_getD, List.getD_eq_getElem?_getD]
  by_cases h : j < k
  · rw [if_pos h, List.getElem?_append_left (by omega), List.getElem?_take, if_pos h]
  · rw [if_neg h, List.getElem?_append_right (by omega), h1, List.getElem?_drop]
    congr 2; omega
theorem mixG_set {α : Type} (E Z : List α) (d : α) (k : Nat) (hk : k < E.length) (hz : Z.length = E.length) : (E.take k ++ Z.drop k).set k (E.getD k d) = E.take (k + 1) ++ Z.drop (k + 1) := by
  have h1 : (E.take k).length = k := by simp; omega
  rw [List.set_append_right _ _ (by omega), h1, Nat.sub_self, List.take_succ_eq_append_getElem hk, List.append_assoc, List.drop_eq_getElem_cons (show k < Z.length by omega), List.set_cons_zero]
  rw [List.getD_eq_getElem?_getD, List.getElem?_eq_getElem hk]; rfl
theorem mixG_skip {α : Type} (E Z : List α) (d : α) (k : Nat) (hk : k < E.length) (hz : Z.length = E.length) (he : Z.getD k d = E.getD k d) : E.take k ++ Z.drop k = E.take (k + 1) ++ Z.drop (k + 1) := by
  rw [List.take_succ_eq_append_getElem hk, List.append_assoc, List.drop_eq_getElem_cons (show k < Z.length by omega)]
  rw [List.getD_eq_getElem?_getD, List.getElem?_eq_getElem (show k < Z.length by omega), List.getD_eq_getElem?_getD, List.getElem?_eq_getElem hk] at he
  have he' : Z[k] = E[k] := he
  rw [he']; rfl
/-! ### the state in memory -/
def nv (ls : List Nat) : List Value := ls.map fun (d : Nat) => .int .i64 (d : Int)
theorem nv_length (ls : List Nat) : (nv ls).length = ls.length := by simp [nv]
theorem inf3 : (Try.prog.info? 3).map (fun i => (i.zero, i.size, i.bytes)) = some (some (.int .i64 0), 1, 8) := by kernel_rfl
structure RS (w0 w : World) (G n cap X cnt capl : Nat) (A : Option Addr) (ls : List Nat) (vs : List Value) (R : List (List UInt8)) : Prop where
  lr : LR w0 w G n cap vs R
  box : w.heap[X]? = some (.cells #[.int .i64 cnt] 3 (0, 0))
  bx : w0.heap.size ≤ X
  own : w.ownsRow w0.heap.size 3 1 (.slice A ls.length capl) ls.length (nv ls)
  ne : (Value.slice A ls.length capl).ownBlock ≠ some X
section
variable {w0 w : World} {G n cap X cnt capl : Nat} {A : Option Addr} {ls : List Nat} {vs : List Value} {R : List (List UInt8)}
theorem RS.later {w' : World} (h : RS w0 w G n cap X cnt capl A ls vs R) (hb : Below w.heap.size w w') : RS w0 w' G n cap X cnt capl A ls vs R :=
  ⟨h.lr.later hb, (hb.block X (Array.getElem?_eq_some_iff.1 h.box).1).trans h.box, h.bx, own_below h.own hb, h.ne⟩
theorem RS.drewN (h : RS w0 w G n cap X cnt capl A ls vs R) (m : Nat) : RS w0 (w.drewN m) G n cap X cnt capl A ls vs R := h.later (below_drewN (Below.refl _ w) m)
theorem RS.cellX (h : RS w0 w G n cap X cnt capl A ls vs R) : w.cell? ⟨X, 0, none⟩ = some (.int .i64 cnt) := (cell_of_row w X 0 _ _ _ h.box).trans rfl
theorem RS.put (h : RS w0 w G n cap X cnt capl A ls vs R) (i : Nat) (hi : i < R.length) {u : Value} {bs : List UInt8} (hu : Sl w u (bv bs)) (ht : T5 w u) :
    RS w0 (w.setCell ⟨G, i, none⟩ u) G n cap X cnt capl A ls (vs.set i u) (R.set i bs) := by
  obtain ⟨cs, hG⟩ := h.lr.heap
  refine ⟨h.lr.put i hi hu ht, ?_, h.bx, own_setP hG h.own (by decide), h.ne⟩
  rw [heap_setCell_other]
  · exact h.box
  · intro e
    have e : X = G := e
    have hb := h.box
    rw [e, hG] at hb; cases hb
theorem RS.swap (h : RS w0 w G n cap X cnt capl A ls vs R) (i j : Nat) (hi : i < R.length) (hj : j < R.length) :
    RS w0 ((w.setCell ⟨G, i, none⟩ (vs.getD j undef)).setCell ⟨G, j, none⟩ (vs.getD i undef)) G n cap X cnt capl A ls ((vs.set i (vs.getD j undef)).set j (vs.getD i undef)) (swapR R i j) := by
  obtain ⟨cs, hG'⟩ := h.lr.heap
  have hG := Not5.one hG' (by decide)
  have h1 := h.put i hi (h.lr.el j hj).1 (h.lr.el j hj).2
  have hg := grown_setCell w G i (vs.getD j undef)
  exact h1.put j (by rw [List.length_set]; exact hj) ((h.lr.el i hi).1.stays hG hg (h.lr.el i hi).2) ((h.lr.el i hi).2.stays hG hg)
/-- The next number's own variable. -/
theorem RS.tick (h : RS w0 w G n cap X cnt capl A ls vs R) (k : Nat) : RS w0 (w.alloc (.cells #[.int .i64 (k : Int)] 3)) G n cap w.heap.size k capl A ls vs R := by
  have hb : Below w.heap.size w (w.alloc (.cells #[.int .i64 (k : Int)] 3)) := (Below.refl _ w).alloc (Nat.le_refl _) _
  refine ⟨h.lr.later hb, heap_alloc_new w _, h.lr.below.size, own_below h.own hb, fun e => ?_⟩
  have := (h.own.lt _ e).2
  omega
end
theorem LR.kept {w0 w w' : World} {G L cap : Nat} {vs : List Value} {rows : List (List UInt8)} (h : LR w0 w G L cap vs rows) {row : Option Nat} (hN : Not5 w row) (hg : w.grownBy w' row) (hne : row ≠ some G) (hb : Below w0.heap.size w0 w') : LR w0 w' G L cap vs rows :=
  ⟨h.row.kept hg (.inr fun e => hne e.symm), h.len, fun i hi => ⟨(h.el i hi).1.stays hN hg (h.el i hi).2, (h.el i hi).2.stays hN hg⟩, hb⟩
section
variable {ops : Array Oper} {rest : List Oper} {o : Oper} {a : Act} {Q : Exit → Act → World → Prop}
/-- append(leads, c) -/
theorem wpL_pushN {w0 W : World} {G n cap X cnt capl : Nat} {A : Option Addr} {ls : List Nat} {vs : List Value} {R : List (List UInt8)} (h : RS w0 W G n cap X cnt capl A ls vs R) (hgd : o.guard = none) (s x : Operand)
    (ho : o.op = .call { callee := .builtin .append, args := #[s, x], argTypes := #[98, 98] })
    (v : Value) (hs : a.eval s = v) (hv : v = .slice A ls.length capl) (Y : Int) (hY : Y = cnt) (hx : a.eval x = .slice (some ⟨W.heap.size, 0, none⟩) 1 1) (hl : ls.length ≤ 1000) (N : Nat) (hN : ls.length + 1 = N)
    (hK : ∀ A' capl' w', RS w0 w' G n cap X cnt capl' A' (ls ++ [cnt]) vs R → wpList Try.prog ops Q rest (a.put o.dst (.slice A' N capl')) w') :
    wpList Try.prog ops Q (o :: rest) a (W.alloc (.cells #[.int .i64 Y] 3)) := by
  subst hY; subst hv; subst hN
  have hal : Below W.heap.size W (W.alloc (.cells #[.int .i64 (cnt : Int)] 3)) := (Below.refl _ W).alloc (Nat.le_refl _) _
  have h2 := h.later hal
  have hown := h2.own
  have hlen := nv_length ls
  have hown' : (W.alloc (.cells #[.int .i64 (cnt : Int)] 3)).ownsRow w0.heap.size 3 1 (.slice A ls.length capl) (nv ls).length (nv ls) := by rw [hlen]; exact hown
  refine wpL_app _ hgd s x 98 3 _ 8 ho Try.underlying98 inf3 rfl (by decide) w0.heap.size _ (nv ls) hs hown' _ _ hx
    (Sl_new W 3 [.int .i64 (cnt : Int)] (by simp [maxLen])) (by simp [Value.oneCell']) (ls.length + 1) (by simp [hlen]) (by omega) h2.lr.below.size fun A' capl' w' h3 h4 h5 h6 => ?_
  have e1 : nv ls ++ [.int .i64 (cnt : Int)] = nv (ls ++ [cnt]) := by simp [nv]
  rw [e1] at h3
  have hb' : Below w0.heap.size w0 w' := h2.lr.below.trans h4
  have hX := (Array.getElem?_eq_some_iff.1 h.box).1
  have hN5 : Not5 (W.alloc (.cells #[.int .i64 (cnt : Int)] 3)) (Value.slice A ls.length capl).ownBlock := fun g e => by
    rcases hown.2 with ⟨e1, _⟩ | ⟨g', c', cur, e1, _, hg, _⟩
    · rw [e1] at e; cases e
    · rw [e1] at e; cases e; exact ⟨cur, 3, (0, 0), hg, by decide⟩
  obtain ⟨cs, hG⟩ := h2.lr.heap
  have hneG : (Value.slice A ls.length capl).ownBlock ≠ some G := fun e => by
    rcases own_not hG hown (by decide) with h' | h'
    · rw [h'] at e; cases e
    · exact h' e
  refine hK A' capl' w' ⟨h2.lr.kept hN5 h5 hneG hb', ?_, h.bx, by simpa using h3, ?_⟩
  · obtain ⟨_, _, _, _, hblk⟩ := h5
    rw [hblk X (Nat.lt_of_lt_of_le hX hal.size) (fun e => h.ne e.symm)]
    exact h2.box
  · have e2 : (Value.slice A' (ls ++ [cnt]).length capl').ownBlock = (Value.slice A' (ls.length + 1) capl').ownBlock := by simp
    rw [e2]
    rcases h6 with h6 | h6
    · rw [h6]; exact h.ne
    · rw [h6]; intro e
      have := Option.some.inj e
      simp at this
      omega
end
end Go.Proofs.Ytllnocffmlagjaa
