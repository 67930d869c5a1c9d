/- Plain laws of matrices: sums, spans, what reduce keeps. Conditions: rows of one length. -/
import Derived.Test.YtllnocffmlagjaaY9
set_option linter.unusedVariables false
namespace Go.Proofs.Ytllnocffmlagjaa
open Go.RowKit

/-! ### sums -/
theorem S_succ (n : Nat) (f : Nat → UInt8) : S (n + 1) f = S n f ^^^ f n := rfl
theorem S_nil (f : Nat → UInt8) : S 0 f = 0 := rfl
theorem S_congr {n : Nat} {f g : Nat → UInt8} (h : ∀ i, i < n → f i = g i) : S n f = S n g := by
  induction n with
  | zero => rfl
  | succ n ih => unfold S; rw [ih fun i hi => h i (by omega), h n (by omega)]
theorem S_zero (n : Nat) : S n (fun _ => 0) = 0 := by
  induction n with
  | zero => rfl
  | succ n ih => rw [S_succ, ih, UInt8.xor_zero]
theorem S_add (n : Nat) (f g : Nat → UInt8) : S n (fun i => f i ^^^ g i) = S n f ^^^ S n g := by
  induction n with
  | zero => rw [S_nil, S_nil, S_nil, UInt8.xor_zero]
  | succ n ih => rw [S_succ, S_succ, S_succ, ih]; exact xor4 _ _ _ _
theorem S_mul (n : Nat) (a : UInt8) (f : Nat → UInt8) : gm a (S n f) = S n (fun i => gm a (f i)) := by
  induction n with
  | zero => exact gm_zero_r a
  | succ n ih => unfold S; rw [gm_xor_r, ih]
theorem S_mul_r (n : Nat) (a : UInt8) (f : Nat → UInt8) : gm (S n f) a = S n (fun i => gm (f i) a) := by
  rw [gm_comm, S_mul]; exact S_congr fun i _ => gm_comm _ _
theorem S_swap (n m : Nat) (f : Nat → Nat → UInt8) : S n (fun i => S m (fun j => f i j)) = S m (fun j => S n (fun i => f i j)) := by
  induction n with
  | zero => exact (S_zero m).symm
  | succ n ih =>
    show S n (fun i => S m (fun j => f i j)) ^^^ S m (fun j => f n j) = _
    rw [ih, ← S_add]; rfl
theorem S_cut {n r : Nat} {f : Nat → UInt8} (hr : r ≤ n) (h : ∀ t, r ≤ t → t < n → f t = 0) : S n f = S r f := by
  induction n with
  | zero => have : r = 0 := by omega
            subst this; rfl
  | succ n ih =>
    by_cases e : r = n + 1
    · rw [e]
    · rw [S_succ, h n (by omega) (by omega), ih (by omega) fun t h1 h2 => h t h1 (by omega), UInt8.xor_zero]
theorem S_delta {n i : Nat} (hi : i < n) (f : Nat → UInt8) : S n (fun t => gm (if t = i then 1 else 0) (f t)) = f i := by
  induction n with
  | zero => omega
  | succ n ih =>
    rw [S_succ]
    by_cases e : n = i
    · subst e
      show _ ^^^ gm (if n = n then 1 else 0) (f n) = _
      rw [if_pos rfl, gm_one_l]
      have : S n (fun t => gm (if t = n then 1 else 0) (f t)) = S n (fun _ => 0) := S_congr fun t ht => by rw [if_neg (by omega), gm_zero_l]
      rw [this, S_zero, UInt8.zero_xor]
    · show _ ^^^ gm (if n = i then 1 else 0) (f n) = _
      rw [if_neg e, gm_zero_l, ih (by omega), UInt8.xor_zero]

/-! ### a product, number by number -/
def en (R : List (List UInt8)) (i j : Nat) : UInt8 := (R.getD i []).getD j 0
theorem mulRow_at (a : List UInt8) (B : List (List UInt8)) (c k : Nat) (hB : ∀ i, i < k → (B.getD i []).length = c) (j : Nat) (hj : j < c) (q : Nat) (hq : q ≤ k) :
    (mulRow a B c q).getD j 0 = S q (fun t => gm (a.getD t 0) (en B t j)) := by
  induction q with
  | zero => simp [mulRow, S, List.getD_eq_getElem?_getD, hj]
  | succ q ih =>
    unfold mulRow S
    rw [rowAdd_at _ _ _ _ (by rw [mulRow_length a B c k hB q (by omega)]; exact hj) (by rw [hB q (by omega)]; exact hj), ih (by omega)]
    rfl
theorem mulL_en (A B : List (List UInt8)) (n k c : Nat) (hA : Rect A n k) (hB : Rect B k c) (i j : Nat) (hi : i < n) (hj : j < c) : en (mulL A B k c) i j = S k (fun t => gm (en A i t) (en B t j)) := by
  unfold en
  rw [mulL_at _ _ _ _ _ (by rw [hA.len]; exact hi), mulRow_at _ _ _ k hB.col j hj k (Nat.le_refl _)]
  rfl
theorem law_times (A B : List (List UInt8)) (n k c : Nat) (V : List UInt8) (hA : Rect A n k) (hB : Rect B k c) (hV : V.length = c) : timesL (mulL A B k c) V c = timesL A (timesL B V c) k := by
  have h1 : (timesL (mulL A B k c) V c).length = n := by rw [timesL_length, mulL_length, hA.len]
  have h2 : (timesL A (timesL B V c) k).length = n := by rw [timesL_length, hA.len]
  apply List.ext_getElem (by omega)
  intro i hi1 hi2
  have hi : i < n := by omega
  have e1 : (timesL (mulL A B k c) V c).getD i 0 = (timesL (mulL A B k c) V c)[i] := by rw [List.getD_eq_getElem?_getD, List.getElem?_eq_getElem hi1]; rfl
  have e2 : (timesL A (timesL B V c) k).getD i 0 = (timesL A (timesL B V c) k)[i] := by rw [List.getD_eq_getElem?_getD, List.getElem?_eq_getElem hi2]; rfl
  rw [← e1, ← e2, timesL_at _ _ _ _ (by rw [mulL_length, hA.len]; exact hi), timesL_at _ _ _ _ (by rw [hA.len]; exact hi)]
  unfold dotN
  have l1 : S c (fun j => gm (((mulL A B k c).getD i []).getD j 0) (V.getD j 0)) = S c (fun j => S k (fun t => gm (en A i t) (gm (en B t j) (V.getD j 0)))) := S_congr fun j hj => by
    have := mulL_en A B n k c hA hB i j hi hj
    unfold en at this
    rw [this, S_mul_r]
    exact S_congr fun t _ => gm_assoc _ _ _
  have l2 : S k (fun t => gm ((A.getD i []).getD t 0) ((timesL B V c).getD t 0)) = S k (fun t => S c (fun j => gm (en A i t) (gm (en B t j) (V.getD j 0)))) := S_congr fun t ht => by
    rw [timesL_at _ _ _ _ (by rw [hB.len]; exact ht)]
    unfold dotN
    rw [S_mul]; rfl
  rw [l1, l2, S_swap]

/-! ### spans -/
def InS (n cc : Nat) (M : Nat → Nat → UInt8) (v : Nat → UInt8) : Prop := ∃ x : Nat → UInt8, ∀ j, j < cc → v j = S n (fun t => gm (x t) (M t j))
theorem InS.row {n cc : Nat} {M : Nat → Nat → UInt8} {i : Nat} (hi : i < n) : InS n cc M (M i) := ⟨fun t => if t = i then 1 else 0, fun j _ => (S_delta hi fun t => M t j).symm⟩
theorem InS.add {n cc : Nat} {M : Nat → Nat → UInt8} {u v : Nat → UInt8} (h : InS n cc M u) (k : InS n cc M v) : InS n cc M (fun j => u j ^^^ v j) := by
  obtain ⟨x, hx⟩ := h
  obtain ⟨y, hy⟩ := k
  refine ⟨fun t => x t ^^^ y t, fun j hj => ?_⟩
  show u j ^^^ v j = _
  rw [hx j hj, hy j hj, ← S_add]
  exact S_congr fun t _ => (gm_xor_l _ _ _).symm
theorem InS.smul {n cc : Nat} {M : Nat → Nat → UInt8} {v : Nat → UInt8} (a : UInt8) (h : InS n cc M v) : InS n cc M (fun j => gm a (v j)) := by
  obtain ⟨x, hx⟩ := h
  refine ⟨fun t => gm a (x t), fun j hj => ?_⟩
  show gm a (v j) = _
  rw [hx j hj, S_mul]
  exact S_congr fun t _ => (gm_assoc _ _ _).symm
theorem InS.congr {n cc : Nat} {M : Nat → Nat → UInt8} {u v : Nat → UInt8} (h : InS n cc M u) (e : ∀ j, j < cc → v j = u j) : InS n cc M v := by
  obtain ⟨x, hx⟩ := h
  exact ⟨x, fun j hj => (e j hj).trans (hx j hj)⟩
theorem InS.trans {n m cc : Nat} {M N : Nat → Nat → UInt8} {v : Nat → UInt8} (h : ∀ i, i < m → InS n cc M (N i)) (k : InS m cc N v) : InS n cc M v := by
  obtain ⟨x, hx⟩ := k
  have h' : ∀ i, ∃ y : Nat → UInt8, i < m → ∀ j, j < cc → N i j = S n (fun t => gm (y t) (M t j)) := fun i => by
    by_cases hi : i < m
    · obtain ⟨y, hy⟩ := h i hi; exact ⟨y, fun _ => hy⟩
    · exact ⟨fun _ => 0, fun h => absurd h hi⟩
  obtain ⟨Y, hY⟩ := Classical.axiomOfChoice h'
  refine ⟨fun t => S m (fun i => gm (x i) (Y i t)), fun j hj => ?_⟩
  rw [hx j hj]
  have e : S m (fun i => gm (x i) (N i j)) = S m (fun i => S n (fun t => gm (gm (x i) (Y i t)) (M t j))) := S_congr fun i hi => by
    rw [hY i hi j hj, S_mul]
    exact S_congr fun t _ => (gm_assoc _ _ _).symm
  rw [e, S_swap]
  exact S_congr fun t _ => (S_mul_r _ _ _).symm
/-- Ones on the way down through s numbers: no more than s of them. -/
theorem key_rank : ∀ (s r : Nat) (E F : Nat → Nat → UInt8), (∀ p q, p < r → q < r → S s (fun u => gm (E p u) (F u q)) = if p = q then 1 else 0) → r ≤ s
  | 0, r, E, F, h => by
    rcases Nat.eq_zero_or_pos r with h0 | h0
    · omega
    · have := h 0 0 h0 h0
      rw [if_pos rfl, S_nil] at this
      exact absurd this (by decide)
  | s + 1, r, E, F, h => by
    by_cases hz : ∀ p, p < r → E p s = 0
    · have := key_rank s r E F fun p q hp hq => by
        rw [← h p q hp hq]
        show _ = S s (fun u => gm (E p u) (F u q)) ^^^ gm (E p s) (F s q)
        rw [hz p hp, gm_zero_l, UInt8.xor_zero]
      omega
    · obtain ⟨p0, hp0⟩ := Classical.not_forall.1 hz
      obtain ⟨hp, hne⟩ : p0 < r ∧ E p0 s ≠ 0 := by
        by_cases h1 : p0 < r
        · exact ⟨h1, fun e => hp0 fun _ => e⟩
        · exact absurd (fun h2 => absurd h2 h1) hp0
      have hσ : ∀ p, p < r - 1 → (if p < p0 then p else p + 1) < r ∧ (if p < p0 then p else p + 1) ≠ p0 := fun p hp' => by split <;> omega
      have := key_rank s (r - 1) (fun p u => E (if p < p0 then p else p + 1) u ^^^ gm (gm (E (if p < p0 then p else p + 1) s) (iv (E p0 s))) (E p0 u)) (fun u q => F u (if q < p0 then q else q + 1)) fun p q hp1 hq1 => by
        obtain ⟨a1, a2⟩ := hσ p hp1
        obtain ⟨b1, b2⟩ := hσ q hq1
        have hpq : ((if p < p0 then p else p + 1) = (if q < p0 then q else q + 1)) ↔ p = q := by
          constructor
          · intro e; split at e <;> split at e <;> omega
          · intro e; rw [e]
        generalize (if p < p0 then p else p + 1) = P at *
        generalize (if q < p0 then q else q + 1) = Q at *
        have l1 := h P Q a1 b1
        have l2 := h p0 Q hp b1
        rw [if_neg (fun e => b2 e.symm)] at l2
        have l3 : S (s + 1) (fun u => gm (E P u ^^^ gm (gm (E P s) (iv (E p0 s))) (E p0 u)) (F u Q)) = if P = Q then 1 else 0 := by
          have : S (s + 1) (fun u => gm (E P u ^^^ gm (gm (E P s) (iv (E p0 s))) (E p0 u)) (F u Q)) = S (s + 1) (fun u => gm (E P u) (F u Q)) ^^^ gm (gm (E P s) (iv (E p0 s))) (S (s + 1) (fun u => gm (E p0 u) (F u Q))) := by
            rw [S_mul, ← S_add]
            exact S_congr fun u _ => by rw [gm_xor_l, gm_assoc]
          rw [this, l1, l2, gm_zero_r, UInt8.xor_zero]
        have l4 : E P s ^^^ gm (gm (E P s) (iv (E p0 s))) (E p0 s) = 0 := by
          rw [gm_assoc, gm_comm (iv _), gm_iv _ hne, gm_one_r, UInt8.xor_self]
        have l5 : S (s + 1) (fun u => gm (E P u ^^^ gm (gm (E P s) (iv (E p0 s))) (E p0 u)) (F u Q)) = S s (fun u => gm (E P u ^^^ gm (gm (E P s) (iv (E p0 s))) (E p0 u)) (F u Q)) ^^^ gm (E P s ^^^ gm (gm (E P s) (iv (E p0 s))) (E p0 s)) (F s Q) := rfl
        rw [l4, gm_zero_l, UInt8.xor_zero, l3] at l5
        rw [← l5]
        by_cases e : p = q
        · rw [if_pos e, if_pos (hpq.2 e)]
        · rw [if_neg e, if_neg (fun e' => e (hpq.1 e'))]
      omega
/-! ### what reduce keeps -/
theorem swapR_other (R : List (List UInt8)) (p i k : Nat) (h1 : k ≠ p) (h2 : k ≠ i) : (swapR R p i).getD k [] = R.getD k [] := by
  unfold swapR
  rw [getD_set_other _ _ _ _ _ (fun e => h2 e.symm), getD_set_other _ _ _ _ _ (fun e => h1 e.symm)]
theorem swapR_second (R : List (List UInt8)) (p i : Nat) (hi : i < R.length) : (swapR R p i).getD i [] = R.getD p [] := by
  unfold swapR
  exact getD_set_eq _ _ _ _ (by rw [List.length_set]; exact hi)
/-- Each row of the swapped is a row. -/
theorem swapR_row (R : List (List UInt8)) (p i k : Nat) (hp : p < R.length) (hi : i < R.length) (hk : k < R.length) : ∃ l, l < R.length ∧ (swapR R p i).getD k [] = R.getD l [] ∧ (k = p → l = i) ∧ (k ≠ p → k ≠ i → l = k) ∧ (k = i → k ≠ p → l = p) := by
  by_cases h1 : k = p
  · subst h1; exact ⟨i, hi, swapR_at _ _ _ hp hi, fun _ => rfl, fun h => absurd rfl h, fun _ h => absurd rfl h⟩
  · by_cases h2 : k = i
    · subst h2; exact ⟨p, hp, swapR_second _ _ _ hi, fun h => absurd h h1, fun _ h => absurd rfl h, fun _ _ => rfl⟩
    · exact ⟨k, hk, swapR_other _ _ _ _ h1 h2, fun h => absurd h h1, fun _ _ => rfl, fun h => absurd h h2⟩
theorem scaleL_at (c : UInt8) (bs : List UInt8) (j : Nat) (h : j < bs.length) : (scaleL c bs).getD j 0 = gm c (bs.getD j 0) := by
  simp [scaleL, List.getD_eq_getElem?_getD, h]
theorem elimR_en {R : List (List UInt8)} {n cc : Nat} (h : Rect R n cc) (p d : Nat) (hp : p < n) (k j : Nat) (hk : k < n) (hj : j < cc) :
    en (elimR R n p d) k j = if k = p then gm (iv (en R p d)) (en R p j) else en R k j ^^^ gm (en R k d) (gm (iv (en R p d)) (en R p j)) := by
  unfold en
  rw [elimR_at _ _ _ _ _ hk]
  split
  · exact scaleL_at _ _ _ (by rw [h.col p hp]; exact hj)
  · rw [rowAdd_at _ _ _ _ (by rw [h.col k hk]; exact hj) (by rw [scaleL_length, h.col p hp]; exact hj), scaleL_at _ _ _ (by rw [h.col p hp]; exact hj)]
structure RedI (rows : List (List UInt8)) (n cc c : Nat) (ls : List Nat) (R : List (List UInt8)) : Prop where
  rect : Rect R n cc
  len : ls.length ≤ n
  to : ∀ i, i < n → InS n cc (en rows) (en R i)
  fro : ∀ i, i < n → InS n cc (en R) (en rows i)
  lt : ∀ p, p < ls.length → ls.getD p 0 < c
  one : ∀ p, p < ls.length → ∀ i, i < n → en R i (ls.getD p 0) = if i = p then 1 else 0
  low : ∀ i, ls.length ≤ i → i < n → ∀ j, j < c → en R i j = 0
theorem getD_push (ls : List Nat) (c p : Nat) : (ls ++ [c]).getD p 0 = if p < ls.length then ls.getD p 0 else if p = ls.length then c else 0 := by
  rw [List.getD_eq_getElem?_getD]
  by_cases h : p < ls.length
  · rw [if_pos h, List.getElem?_append_left h, ← List.getD_eq_getElem?_getD]
  · rw [if_neg h, List.getElem?_append_right (by omega)]
    by_cases e : p = ls.length
    · subst e; simp
    · rw [if_neg e, List.getElem?_eq_none (by simp; omega)]; rfl
theorem RedI.swap {rows : List (List UInt8)} {n cc c : Nat} {ls : List Nat} {R : List (List UInt8)} (h : RedI rows n cc c ls R) (i : Nat) (h1 : ls.length ≤ i) (h2 : i < n) : RedI rows n cc c ls (swapR R ls.length i) := by
  have hl := h.rect.len
  have hp : ls.length < n := by omega
  refine ⟨swapR_rect h.rect _ _ hp h2, h.len, fun k hk => ?_, fun k hk => ?_, h.lt, fun p hpl k hk => ?_, fun k hk1 hk j hj => ?_⟩
  · obtain ⟨l, hl', e, _⟩ := swapR_row R ls.length i k (by omega) (by omega) (by omega)
    have : en (swapR R ls.length i) k = en R l := by funext j; unfold en; rw [e]
    rw [this]; exact h.to l (by omega)
  · refine InS.trans (N := en R) (m := n) (fun l hl' => ?_) (h.fro k hk)
    by_cases e1 : l = ls.length
    · subst e1
      have : en R ls.length = en (swapR R ls.length i) i := by funext j; unfold en; rw [swapR_second _ _ _ (by omega)]
      rw [this]; exact InS.row h2
    · by_cases e2 : l = i
      · subst e2
        have : en R l = en (swapR R ls.length l) ls.length := by funext j; unfold en; rw [swapR_at _ _ _ (by omega) (by omega)]
        rw [this]; exact InS.row hp
      · have : en R l = en (swapR R ls.length i) l := by funext j; unfold en; rw [swapR_other _ _ _ _ e1 e2]
        rw [this]; exact InS.row hl'
  · obtain ⟨l, hl', e, q1, q2, q3⟩ := swapR_row R ls.length i k (by omega) (by omega) (by omega)
    have : en (swapR R ls.length i) k (ls.getD p 0) = en R l (ls.getD p 0) := by unfold en; rw [e]
    rw [this, h.one p hpl l (by omega)]
    by_cases e1 : k = ls.length
    · have := q1 e1; rw [if_neg (by omega), if_neg (by omega)]
    · by_cases e2 : k = i
      · have := q3 e2 e1; rw [if_neg (by omega), if_neg (by omega)]
      · rw [q2 e1 e2]
  · obtain ⟨l, hl', e, q1, q2, q3⟩ := swapR_row R ls.length i k (by omega) (by omega) (by omega)
    have : en (swapR R ls.length i) k j = en R l j := by unfold en; rw [e]
    rw [this]
    refine h.low l ?_ (by omega) j hj
    by_cases e1 : k = ls.length
    · have := q1 e1; omega
    · by_cases e2 : k = i
      · have := q3 e2 e1; omega
      · have := q2 e1 e2; omega
theorem RedI.elim {rows : List (List UInt8)} {n cc c : Nat} {ls : List Nat} {R : List (List UInt8)} (h : RedI rows n cc c ls R) (hp : ls.length < n) (hc : c < cc) (hne : en R ls.length c ≠ 0) : RedI rows n cc (c + 1) (ls ++ [c]) (elimR R n ls.length c) := by
  have hE := fun k j hk hj => elimR_en h.rect ls.length c hp k j hk hj
  have hold : ∀ k j, k < n → j < c → en (elimR R n ls.length c) k j = en R k j := fun k j hk hj => by
    have hz := h.low ls.length (Nat.le_refl _) hp j hj
    rw [hE k j hk (by omega), hz, gm_zero_r, gm_zero_r, UInt8.xor_zero]
    split
    · rename_i e; rw [e, hz]
    · rfl
  have hnew : ∀ k, k < n → en (elimR R n ls.length c) k c = if k = ls.length then 1 else 0 := fun k hk => by
    rw [hE k c hk hc, gm_comm (iv _), gm_iv _ hne, gm_one_r, UInt8.xor_self]
  refine ⟨elimR_rect h.rect _ _ hp, by simp; omega, fun k hk => ?_, fun k hk => ?_, fun p hpl => ?_, fun p hpl k hk => ?_, fun k hk1 hk j hj => ?_⟩
  · by_cases e : k = ls.length
    · subst e
      exact ((h.to ls.length hp).smul (iv (en R ls.length c))).congr fun j hj => by rw [hE _ j hk hj, if_pos rfl]
    · exact ((h.to k hk).add (((h.to ls.length hp).smul (iv (en R ls.length c))).smul (en R k c))).congr fun j hj => by rw [hE _ j hk hj, if_neg e]
  · have hP : InS n cc (en (elimR R n ls.length c)) (en R ls.length) := ((InS.row (M := en (elimR R n ls.length c)) hp).smul (en R ls.length c)).congr fun j hj => by
      rw [hE _ j hp hj, if_pos rfl, ← gm_assoc, gm_iv _ hne, gm_one_l]
    refine InS.trans (N := en R) (m := n) (fun l hl' => ?_) (h.fro k hk)
    by_cases e : l = ls.length
    · rw [e]; exact hP
    · exact ((InS.row (M := en (elimR R n ls.length c)) hl').add ((hP.smul (iv (en R ls.length c))).smul (en R l c))).congr fun j hj => by
        rw [hE _ j hl' hj, if_neg e, UInt8.xor_assoc, UInt8.xor_self, UInt8.xor_zero]
  · rw [getD_push]
    split
    · rename_i hlt; have := h.lt p hlt; omega
    · split <;> omega
  · rw [getD_push]
    rw [List.length_append, List.length_singleton] at hpl
    split
    · rename_i hlt; rw [hold k _ hk (h.lt p hlt)]; exact h.one p hlt k hk
    · rename_i hlt
      have e : p = ls.length := by omega
      subst e
      rw [if_pos rfl]; exact hnew k hk
  · rw [List.length_append, List.length_singleton] at hk1
    by_cases e : j = c
    · rw [e, hnew k hk, if_neg (by omega)]
    · rw [hold k j hk (by omega)]; exact h.low k (by omega) hk j (by omega)
theorem Red.inv {rows : List (List UInt8)} {n c : Nat} {ls : List Nat} {R : List (List UInt8)} (h : Red rows n c ls R) {cc : Nat} (hr : Rect rows n cc) (hc : c ≤ cc) : RedI rows n cc c ls R := by
  induction h with
  | start => exact ⟨hr, Nat.zero_le _, fun i hi => InS.row hi, fun i hi => InS.row hi, fun p hp => absurd hp (by simp), fun p hp => absurd hp (by simp), fun i _ _ j hj => absurd hj (by omega)⟩
  | skip hR hz ih =>
    have hi := ih (by omega)
    exact ⟨hi.rect, hi.len, hi.to, hi.fro, fun p hp => by have := hi.lt p hp; omega, hi.one, fun i h1 h2 j hj => by
      rename_i c' _ _
      by_cases e : j = c'
      · rw [e]; exact hz i h1 h2
      · exact hi.low i h1 h2 j (by omega)⟩
  | step i hR h1 h2 h3 ih =>
    have hi := ih (by omega)
    have hs := hi.swap i h1 h2
    refine hs.elim (by omega) (by omega) ?_
    unfold en
    rw [swapR_at _ _ _ (by rw [hi.rect.len]; omega) (by rw [hi.rect.len]; omega)]
    exact h3
theorem RedI.cut {rows : List (List UInt8)} {n cc : Nat} {ls : List Nat} {R : List (List UInt8)} (h : RedI rows n cc cc ls R) (i : Nat) (hi : i < n) : InS ls.length cc (en R) (en rows i) := by
  obtain ⟨x, hx⟩ := h.fro i hi
  refine ⟨x, fun j hj => ?_⟩
  rw [hx j hj]
  exact S_cut h.len fun t h1 h2 => by rw [h.low t h1 h2 j hj, gm_zero_r]
/-- Rows that so many give: no more leads. -/
theorem RedI.le {rows : List (List UInt8)} {n cc s : Nat} {ls : List Nat} {R : List (List UInt8)} (h : RedI rows n cc cc ls R) (Q : Nat → Nat → UInt8) (hQ : ∀ i, i < n → InS s cc Q (en rows i)) : ls.length ≤ s := by
  have hR : ∀ p, ∃ x : Nat → UInt8, p < ls.length → ∀ j, j < cc → en R p j = S s (fun t => gm (x t) (Q t j)) := fun p => by
    by_cases hp : p < ls.length
    · obtain ⟨x, hx⟩ := InS.trans (N := en rows) (m := n) hQ (h.to p (by have := h.len; omega))
      exact ⟨x, fun _ => hx⟩
    · exact ⟨fun _ => 0, fun h => absurd h hp⟩
  obtain ⟨E, hE⟩ := Classical.axiomOfChoice hR
  refine key_rank s ls.length E (fun u q => Q u (ls.getD q 0)) fun p q hp hq => ?_
  rw [← hE p hp _ (h.lt q hq)]
  exact h.one q hq p (by have := h.len; omega)
theorem law_rank (A B : List (List UInt8)) (n k c : Nat) (hA : Rect A n k) (hB : Rect B k c) {l1 l2 l3 : List Nat} {R1 R2 R3 : List (List UInt8)} (h1 : Red (mulL A B k c) n c l1 R1) (h2 : Red A n k l2 R2) (h3 : Red B k c l3 R3) :
    l1.length ≤ l2.length ∧ l1.length ≤ l3.length := by
  have i1 := h1.inv (mulL_rect hA hB) (Nat.le_refl _)
  have i2 := h2.inv hA (Nat.le_refl _)
  have i3 := h3.inv hB (Nat.le_refl _)
  constructor
  · refine i1.le (fun s j => S k (fun t => gm (en R2 s t) (en B t j))) fun i hi => ?_
    obtain ⟨x, hx⟩ := i2.cut i hi
    refine ⟨x, fun j hj => ?_⟩
    rw [mulL_en A B n k c hA hB i j hi hj]
    have e : S k (fun t => gm (en A i t) (en B t j)) = S k (fun t => S l2.length (fun s => gm (x s) (gm (en R2 s t) (en B t j)))) := S_congr fun t ht => by
      rw [hx t ht, S_mul_r]
      exact S_congr fun s _ => gm_assoc _ _ _
    rw [e, S_swap]
    exact S_congr fun s _ => (S_mul _ _ _).symm
  · refine i1.le (en R3) fun i hi => ?_
    refine InS.trans (N := en B) (m := k) (fun t ht => i3.cut t ht) ⟨fun t => en A i t, fun j hj => mulL_en A B n k c hA hB i j hi hj⟩
end Go.Proofs.Ytllnocffmlagjaa
