/- The tally's state in memory; contracts of tally.New, Len. Conditions: each theorem names its own. -/
import Derived.Test.YtllnocffmlagjaaT7
set_option linter.unusedVariables false
namespace Go.Proofs.Ytllnocffmlagjaa
open Go.RowKit

/-- The tally at block P: n items, its roots rs. -/
structure TI (w0 w : World) (P n : Nat) (rs : List (List UInt8)) (rv : Value) (vs : List Value) : Prop where
  ptr : w.heap[P]? = some (.cells #[.int .i64 (n : Int), rv] 105 (0, 0))
  base : w0.heap.size ≤ P
  row : w.ownsRow w0.heap.size 22 1 rv vs.length vs
  len : vs.length = rs.length
  el : ∀ i, i < rs.length → w.ownsRow w0.heap.size 5 1 (vs.getD i undef) (rs.getD i []).length (bv (rs.getD i []))
  below : Below w0.heap.size w0 w
/-- All rows of bytes, whoever owns them, are as they were. -/
def KR (w w' : World) : Prop := ∀ B u n xs, w.ownsRow B 5 1 u n xs → w'.ownsRow B 5 1 u n xs
theorem KR.trans {a b c : World} (h : KR a b) (k : KR b c) : KR a c := fun B u n xs o => k B u n xs (h B u n xs o)
theorem KR.of_below {w w' : World} (h : Below w.heap.size w w') : KR w w' := fun B u n xs o => own_below o h
theorem KR.of_row {w w' : World} {b m : Nat} {v : Value} {ys : List Value} (h : w.grownBy w' v.ownBlock) (hv : w.ownsRow b 22 1 v m ys) : KR w w' := fun B u n xs o => o.kept h (own_other o hv)
/-- A block of another type is no row's. -/
theorem own_not {w : World} {b e : Nat} {t : TypeId} {P : Nat} {cs : Array Value} {v : Value} {n : Nat} {xs : List Value} (hP : w.heap[P]? = some (.cells cs t (0, 0))) (hv : w.ownsRow b e 1 v n xs) (hne : e ≠ t) : v.ownBlock = none ∨ v.ownBlock ≠ some P := by
  rcases hv.2 with ⟨rfl, _⟩ | ⟨g, cap, cur, rfl, _, hg, _⟩
  · exact .inl rfl
  · refine .inr fun h => ?_
    have : g = P := Option.some.inj h
    subst this
    rw [hP] at hg; cases hg; exact hne rfl
theorem grown_setCell (w : World) (P k : Nat) (u : Value) : w.grownBy (w.setCell ⟨P, k, none⟩ u) (some P) :=
  ⟨by simp [World.setCell], by simp [World.setCell], by simp [World.setCell], by simp, fun g hg hne => heap_setCell_other w ⟨P, k, none⟩ g u (fun e => hne (by rw [e]))⟩
theorem own_setP {w : World} {b e : Nat} {t : TypeId} {P k : Nat} {cs : Array Value} {v u : Value} {n : Nat} {xs : List Value} (hP : w.heap[P]? = some (.cells cs t (0, 0))) (hv : w.ownsRow b e 1 v n xs) (hne : e ≠ t) :
    (w.setCell ⟨P, k, none⟩ u).ownsRow b e 1 v n xs := hv.kept (grown_setCell w P k u) (own_not hP hv hne)
theorem KR.of_setP {w : World} {t : TypeId} {P k : Nat} {cs : Array Value} {u : Value} (hP : w.heap[P]? = some (.cells cs t (0, 0))) (hne : (5 : Nat) ≠ t) : KR w (w.setCell ⟨P, k, none⟩ u) := fun B v n xs o => own_setP hP o hne
theorem TI.later {w0 w w' : World} {P n : Nat} {rs : List (List UInt8)} {rv : Value} {vs : List Value} (h : TI w0 w P n rs rv vs) (hb : Below w.heap.size w w') : TI w0 w' P n rs rv vs :=
  ⟨(hb.block P (Array.getElem?_eq_some_iff.1 h.ptr).1).trans h.ptr, h.base, own_below h.row hb, h.len, fun i hi => own_below (h.el i hi) hb, below_then h.below h.below.size hb⟩
theorem own_cut {w : World} {b e : Nat} {A : Option Addr} {n cap k : Nat} {xs : List Value} (h : w.ownsRow b e 1 (.slice A n cap) n xs) (hk : k ≤ n) : w.ownsRow b e 1 (.slice A k cap) k (xs.take k) := by
  have hl := h.1
  refine ⟨by rw [List.length_take]; omega, ?_⟩
  rcases h.2 with ⟨h1, rfl⟩ | ⟨g, c, cur, h1, hb, hg, hc, hm, hs, ht⟩
  · cases h1
    obtain rfl : k = 0 := by omega
    exact .inl ⟨rfl, rfl⟩
  · cases h1
    refine .inr ⟨g, cap, cur, rfl, hb, hg, by omega, hm, hs, ?_⟩
    rw [← ht, List.take_take]
    congr 1; omega

theorem inf105 : (Try.prog.info? 105).map (fun i => (i.zero, i.size)) = some (some (.agg #[.int .i64 0, .slice none 0 0]), 2) := by kernel_rfl
set_option maxHeartbeats 400000 in
theorem tnew_any (w : World) : Calls Try.prog 32 #[] w fun e w' => e = .returned (.pointer (some ⟨w.heap.size, 0, none⟩)) ∧ w' = w.alloc (.cells #[.int .i64 0, .slice none 0 0] 105) := by
  go_enter Try.func32, Try.ntmps32
  go_wp2
  go_ret
  exact ⟨rfl, rfl⟩
theorem TI.new (w : World) : TI w (w.alloc (.cells #[.int .i64 0, .slice none 0 0] 105)) w.heap.size 0 [] (.slice none 0 0) [] :=
  ⟨heap_alloc_new w _, Nat.le_refl _, World.ownsRow_nil _ _ _ _, rfl, fun i hi => absurd hi (by simp), (Below.refl _ w).alloc (Nat.le_refl _) _⟩

set_option maxHeartbeats 400000 in
theorem tlen_nil (w : World) : Calls Try.prog 33 #[.pointer none] w fun e w' => e = .returned (.int .i64 0) ∧ w' = w := by
  go_enter Try.func33, Try.ntmps33
  go_wp2
  go_ret
  exact ⟨rfl, rfl⟩
set_option maxHeartbeats 400000 in
theorem tlen_any (w : World) (P : Nat) (n : Int) (rv : Value) (h : w.heap[P]? = some (.cells #[.int .i64 n, rv] 105 (0, 0))) : Calls Try.prog 33 #[.pointer (some ⟨P, 0, none⟩)] w fun e w' => e = .returned (.int .i64 n) ∧ w' = w := by
  have hc : w.cell? ⟨P, 0, none⟩ = some (.int .i64 n) := (cell_of_row w P 0 _ _ _ h).trans rfl
  go_enter Try.func33, Try.ntmps33
  go_wp2
  go_ret
  exact ⟨rfl, rfl⟩
set_option maxHeartbeats 400000 in
theorem troot_nil (w : World) : Calls Try.prog 34 #[.pointer none] w fun e w' => e = .returned (.slice none 0 0) ∧ w' = w := by
  go_enter Try.func34, Try.ntmps34
  go_wp2
  go_ret
  exact ⟨rfl, rfl⟩
set_option maxHeartbeats 400000 in
theorem tadd_nil (w : World) (v : Value) : Calls Try.prog 35 #[.pointer none, v] w fun e w' => e = .returned (.tuple #[]) ∧ w' = w := by
  go_enter Try.func35, Try.ntmps35
  go_wp2
  refine bodyPost_ret (results_none rfl _ _ _) rfl ?_
  exact ⟨rfl, rfl⟩
end Go.Proofs.Ytllnocffmlagjaa
/- Contract of tally.Add. Conditions: fewer than 256 items; as many roots as the number of items has ones. -/
set_option linter.unusedVariables false
namespace Go.Proofs.Ytllnocffmlagjaa
open Go.RowKit

/-- how many ones a number of f bits has -/
def pcF : Nat → Nat → Nat
  | 0, _ => 0
  | f + 1, m => m % 2 + pcF f (m / 2)
theorem pcF_succ (f m : Nat) : pcF (f + 1) m = m % 2 + pcF f (m / 2) := rfl
/-- the roots behind one item more, whose sum is s -/
def carryF : Nat → Nat → List (List UInt8) → List UInt8 → List (List UInt8)
  | 0, _, rs, s => rs ++ [s]
  | f + 1, m, rs, s => if m % 2 = 1 then carryF f (m / 2) (rs.take (rs.length - 1)) (bothH (rs.getD (rs.length - 1) []) s) else rs ++ [s]
theorem carryF_len : ∀ f m rs s, rs.length = pcF f m → m < 2 ^ f → (carryF f m rs s).length ≤ f + 1
  | 0, _, rs, s, h, _ => by simp [carryF]; simp [pcF] at h; omega
  | f + 1, m, rs, s, h, hm => by
    have hpc : ∀ f m, pcF f m ≤ f := by
      intro f
      induction f with
      | zero => intro m; simp [pcF]
      | succ f ih => intro m; have := ih (m / 2); rw [pcF_succ]; omega
    unfold carryF
    split
    · rename_i ho
      have := carryF_len f (m / 2) (rs.take (rs.length - 1)) (bothH (rs.getD (rs.length - 1) []) s) (by rw [List.length_take, h, pcF_succ]; omega) (by rw [Nat.pow_succ] at hm; omega)
      omega
    · rename_i ho
      have : pcF (f + 1) m = pcF f (m / 2) := by rw [pcF_succ]; omega
      have := hpc f (m / 2)
      simp; omega
theorem pcF_carry : ∀ f m rs s, rs.length = pcF f m → m + 1 < 2 ^ f → (carryF f m rs s).length = pcF f (m + 1)
  | 0, _, rs, s, h, hm => by simp at hm
  | f + 1, m, rs, s, h, hm => by
    unfold carryF
    split
    · rename_i ho
      have h2 : (m + 1) / 2 = m / 2 + 1 := by omega
      have := pcF_carry f (m / 2) (rs.take (rs.length - 1)) (bothH (rs.getD (rs.length - 1) []) s) (by rw [List.length_take, h, pcF_succ]; omega) (by rw [Nat.pow_succ] at hm; omega)
      rw [this, pcF_succ, h2]; omega
    · rename_i ho
      have h2 : (m + 1) / 2 = m / 2 := by omega
      have : pcF (f + 1) m = pcF f (m / 2) := by rw [pcF_succ]; omega
      rw [pcF_succ, h2]
      simp; omega
theorem and_one : ∀ m : Nat, m < 256 → bits .and .i64 (m : Int) 1 = ((m % 2 : Nat) : Int) := by decide +kernel
/-- None of the roots lies in block X. -/
def Av (vs : List Value) (X : Nat) : Prop := ∀ i, i < vs.length → (vs.getD i undef).ownBlock ≠ some X
theorem Av.take {vs : List Value} {X : Nat} (h : Av vs X) (k : Nat) : Av (vs.take k) X := by
  intro i hi
  rw [List.length_take] at hi
  rw [List.getD_eq_getElem?_getD, List.getElem?_take, if_pos (by omega), ← List.getD_eq_getElem?_getD]
  exact h i (by omega)
/-- What a step of Add leaves. -/
structure AddAt (w0 w wr : World) (P n : Nat) (rs : List (List UInt8)) (rv : Value) (vs vs0 : List Value) : Prop where
  ti : TI w0 wr P n rs rv vs
  kr : KR w wr
  av : ∀ X, X < w.heap.size → Av vs0 X → Av vs X
  size : w.heap.size ≤ wr.heap.size
theorem TI.cut {w0 w : World} {P n : Nat} {rs : List (List UInt8)} {A : Option Addr} {L cap : Nat} {vs : List Value} (h : TI w0 w P n rs (.slice A L cap) vs) (hL : rs.length = L) (k : Nat) (hk : k ≤ L) :
    TI w0 (w.setCell ⟨P, 1, none⟩ (.slice A k cap)) P n (rs.take k) (.slice A k cap) (vs.take k) := by
  have hlv : vs.length = L := h.len.trans hL
  have hrow := h.row
  rw [hlv] at hrow
  have hc := own_cut hrow hk
  refine ⟨?_, h.base, ?_, by rw [List.length_take, List.length_take, h.len], fun i hi => ?_, h.below.setCell h.base _⟩
  · rw [heap_setCell_same _ _ _ _ _ _ h.ptr]; rfl
  · rw [List.length_take, hlv, Nat.min_eq_left hk]
    exact own_setP h.ptr hc (by decide)
  · rw [List.length_take] at hi
    have := h.el i (by omega)
    rw [List.getD_eq_getElem?_getD, List.getElem?_take, if_pos (by omega), ← List.getD_eq_getElem?_getD, List.getD_eq_getElem?_getD (l := rs.take k), List.getElem?_take, if_pos (by omega), ← List.getD_eq_getElem?_getD]
    exact own_setP h.ptr this (by decide)
theorem TI.cells {w0 w : World} {P n : Nat} {rs : List (List UInt8)} {rv : Value} {vs : List Value} (h : TI w0 w P n rs rv vs) :
    w.cell? ⟨P, 0, none⟩ = some (.int .i64 n) ∧ w.cell? ⟨P, 1, none⟩ = some rv ∧ (∀ k, w.frozen? ⟨P, k, none⟩ = false) :=
  ⟨(cell_of_row w P 0 _ _ _ h.ptr).trans rfl, (cell_of_row w P 1 _ _ _ h.ptr).trans rfl, fun k => frozen_of_row w P k _ _ h.ptr⟩
theorem TI.shape {w0 w : World} {P n : Nat} {rs : List (List UInt8)} {rv : Value} {vs : List Value} (h : TI w0 w P n rs rv vs) : ∃ A cap, rv = .slice A rs.length cap := by
  have := own_shape h.row
  rw [h.len] at this; exact this
theorem TI.at {w0 w : World} {P n : Nat} {rs : List (List UInt8)} {A : Option Addr} {L cap : Nat} {vs : List Value} (h : TI w0 w P n rs (.slice A L cap) vs) (i : Nat) (hi : i < rs.length) :
    ∃ b o, A = some ⟨b, o, none⟩ ∧ w.cell? ⟨b, o + i, none⟩ = some (vs.getD i undef) ∧ Sl w (vs.getD i undef) (bv (rs.getD i [])) := by
  obtain ⟨a, c, he, _, _, _, hr⟩ := Sl.of_own h.row
  cases he
  obtain ⟨b, o, ha, hc⟩ := hr i (by rw [h.len]; exact hi)
  have hel := h.el i hi
  have e : (rs.getD i []).length = (bv (rs.getD i [])).length := by rw [bv_length]
  rw [e] at hel
  exact ⟨b, o, ha, hc, Sl.of_own hel⟩
end Go.Proofs.Ytllnocffmlagjaa
/- Contract of tally.Add. Conditions: fewer than 256 items; as many roots as the number of items has ones. -/
set_option linter.unusedVariables false
namespace Go.Proofs.Ytllnocffmlagjaa
open Go.RowKit

theorem AddAt.end {w0 w wr w2 : World} {P n : Nat} {rs : List (List UInt8)} {A A2 : Option Addr} {L cap cap2 : Nat} {vs vs0 : List Value} {sv : Value} {S : List UInt8} (h : AddAt w0 w wr P n rs (.slice A L cap) vs vs0) (h0 : Below w0.heap.size w0 w) (hL : rs.length = L) (hO : wr.ownsRow w.heap.size 5 1 sv S.length (bv S))
    (hr : w2.ownsRow w0.heap.size 22 1 (.slice A2 (L + 1) cap2) (L + 1) (vs ++ [sv])) (hg : (wr.alloc (.cells #[sv] 22)).grownBy w2 (Value.slice A L cap).ownBlock) :
    AddAt w0 w ((w2.setCell ⟨P, 1, none⟩ (.slice A2 (L + 1) cap2)).setCell ⟨P, 0, none⟩ (.int .i64 ((n + 1 : Nat) : Int))) P (n + 1) (rs ++ [S]) (.slice A2 (L + 1) cap2) (vs ++ [sv]) vs0 := by
  have hlv : vs.length = L := h.ti.len.trans hL
  have hal : Below wr.heap.size wr (wr.alloc (.cells #[sv] 22)) := (Below.refl _ wr).alloc (Nat.le_refl _) _
  have t1 := h.ti.later hal
  have hrow1 := t1.row
  have hb2 : w0.heap.size ≤ (wr.alloc (.cells #[sv] 22)).heap.size := t1.below.size
  have hPne : ∀ k, (Value.slice A L cap).ownBlock = some k → P ≠ k := fun k hk e => by
    rcases own_not t1.ptr hrow1 (by decide) with h' | h'
    · rw [h'] at hk; cases hk
    · exact h' (by rw [hk, e])
  have hPlt : P < (wr.alloc (.cells #[sv] 22)).heap.size := (Array.getElem?_eq_some_iff.1 t1.ptr).1
  have p2 : w2.heap[P]? = some (.cells #[.int .i64 (n : Int), .slice A L cap] 105 (0, 0)) := by
    rw [hg.block P hPlt]
    · exact t1.ptr
    · intro e
      exact hPne P e.symm rfl
  have kr2 : KR (wr.alloc (.cells #[sv] 22)) w2 := KR.of_row hg hrow1
  have p3 : (w2.setCell ⟨P, 1, none⟩ (.slice A2 (L + 1) cap2)).heap[P]? = some (.cells #[.int .i64 (n : Int), .slice A2 (L + 1) cap2] 105 (0, 0)) := by
    rw [heap_setCell_same _ _ _ _ _ _ p2]; rfl
  have p4 : ((w2.setCell ⟨P, 1, none⟩ (.slice A2 (L + 1) cap2)).setCell ⟨P, 0, none⟩ (.int .i64 ((n + 1 : Nat) : Int))).heap[P]? = some (.cells #[.int .i64 ((n + 1 : Nat) : Int), .slice A2 (L + 1) cap2] 105 (0, 0)) := by
    rw [heap_setCell_same _ _ _ _ _ _ p3]; rfl
  have krz : KR wr ((w2.setCell ⟨P, 1, none⟩ (.slice A2 (L + 1) cap2)).setCell ⟨P, 0, none⟩ (.int .i64 ((n + 1 : Nat) : Int))) :=
    (((KR.of_below hal).trans kr2).trans (KR.of_setP p2 (by decide))).trans (KR.of_setP p3 (by decide))
  have hbw2 : Below w0.heap.size w0 w2 := t1.below.grown hg hb2 fun k e => (own_base' hrow1) k e
  have hs : w.heap.size ≤ ((w2.setCell ⟨P, 1, none⟩ (.slice A2 (L + 1) cap2)).setCell ⟨P, 0, none⟩ (.int .i64 ((n + 1 : Nat) : Int))).heap.size := by
    have := h.size; have := hal.size; have := hg.size; simp; omega
  refine ⟨⟨p4, h.ti.base, ?_, by simp [h.ti.len], fun i hi => ?_, (hbw2.setCell h.ti.base _).setCell h.ti.base _⟩, h.kr.trans krz, fun X hX hav i hi => ?_, hs⟩
  · have e : (vs ++ [sv]).length = L + 1 := by simp [hlv]
    rw [e]
    exact own_setP p3 (own_setP p2 hr (by decide)) (by decide)
  · rw [List.length_append] at hi
    by_cases hlt : i < rs.length
    · have := krz _ _ _ _ (h.ti.el i hlt)
      rw [List.getD_eq_getElem?_getD, List.getElem?_append_left (by rw [h.ti.len]; exact hlt), ← List.getD_eq_getElem?_getD, List.getD_eq_getElem?_getD (l := rs ++ [S]), List.getElem?_append_left hlt, ← List.getD_eq_getElem?_getD]
      exact this
    · have hie : i = rs.length := by simp at hi; omega
      subst hie
      have := krz _ _ _ _ (own_rebase hO h0.size)
      rw [List.getD_eq_getElem?_getD, List.getElem?_append_right (by rw [h.ti.len]; omega), List.getD_eq_getElem?_getD (l := rs ++ [S]), List.getElem?_append_right (Nat.le_refl _), h.ti.len, Nat.sub_self]
      exact this
  · rw [List.length_append] at hi
    by_cases hlt : i < vs.length
    · rw [List.getD_eq_getElem?_getD, List.getElem?_append_left hlt, ← List.getD_eq_getElem?_getD]
      exact h.av X hX hav i hlt
    · have hie : i = vs.length := by simp at hi; omega
      subst hie
      rw [List.getD_eq_getElem?_getD, List.getElem?_append_right (Nat.le_refl _), Nat.sub_self]
      intro e
      have := own_base' hO X e
      omega
theorem AddAt.ptr2 {w0 w wr w2 : World} {P n : Nat} {rs : List (List UInt8)} {A : Option Addr} {L cap : Nat} {vs vs0 : List Value} {sv : Value} (h : AddAt w0 w wr P n rs (.slice A L cap) vs vs0)
    (hg : (wr.alloc (.cells #[sv] 22)).grownBy w2 (Value.slice A L cap).ownBlock) : w2.heap[P]? = some (.cells #[.int .i64 (n : Int), .slice A L cap] 105 (0, 0)) := by
  have hal : Below wr.heap.size wr (wr.alloc (.cells #[sv] 22)) := (Below.refl _ wr).alloc (Nat.le_refl _) _
  have t1 := h.ti.later hal
  rw [hg.block P (Array.getElem?_eq_some_iff.1 t1.ptr).1]
  · exact t1.ptr
  · intro e
    rcases own_not t1.ptr t1.row (by decide) with h' | h'
    · rw [h'] at e; cases e
    · exact h' e.symm
theorem AddAt.pop {w0 w wr w2 : World} {P n : Nat} {rs : List (List UInt8)} {A : Option Addr} {L cap : Nat} {vs vs0 : List Value} (h : AddAt w0 w wr P n rs (.slice A L cap) vs vs0) (hL : rs.length = L) (hb : Below wr.heap.size wr w2) (k : Nat) (hk : k ≤ L) :
    AddAt w0 w (w2.setCell ⟨P, 1, none⟩ (.slice A k cap)) P n (rs.take k) (.slice A k cap) (vs.take k) vs0 := by
  have t2 := h.ti.later hb
  refine ⟨t2.cut hL k hk, (h.kr.trans (KR.of_below hb)).trans (KR.of_setP t2.ptr (by decide)), fun X hX hav => (h.av X hX hav).take k, ?_⟩
  have := h.size; have := hb.size; simp; omega

set_option maxRecDepth 100000 in
set_option maxHeartbeats 2000000 in
theorem tadd_any (w0 w : World) (P n : Nat) (rs : List (List UInt8)) (rv : Value) (vs : List Value) (hT : TI w0 w P n rs rv vs) (hn : n < 256) (hpc : rs.length = pcF 8 n) (h32 : ∀ i, i < rs.length → (rs.getD i []).length = 32)
    (v : Value) (b : List UInt8) (hv : Sl w v (bv b)) (hl : b.length ≤ 1000000) :
    Calls Try.prog 35 #[.pointer (some ⟨P, 0, none⟩), v] w fun e w' => e = .returned (.tuple #[]) ∧ ∃ rv' vs', Hid (AddAt w0 w w' P (n + 1) (carryF 8 n rs (leafH b)) rv' vs' vs) := by
  have hi := item_any w v b hv hl
  obtain ⟨av, cv, rfl, _, _, _, _⟩ := hv.openB
  have HB0 := Lib.hid hT.below
  have hA0 : AddAt w0 w w P n rs rv vs vs := ⟨hT, fun _ _ _ _ h => h, fun X _ h => h, Nat.le_refl _⟩
  obtain ⟨FIN, hFIN⟩ : ∃ F, F = carryF 8 n rs (leafH b) := ⟨_, rfl⟩
  rw [← hFIN]
  have HF := Lib.hid hFIN
  obtain ⟨p0, p1, pf⟩ := hT.cells
  have HA0 := Lib.hid hA0
  have HPC := Lib.hid hpc
  have H32 := Lib.hid h32
  have hl32 : (leafH b).length = 32 := sha_length _
  generalize leafH b = S0 at *
  clear hT hv hFIN hA0 hpc h32 p1 pf
  go_enter Try.func35, Try.ntmps35
  go_wp2_with (go_at_call 67; refine hi.mono ?_; rintro e w1 ⟨r1, rfl, hO1⟩; clear hi; replace p0 := (hO1.2.cell (World.block_lt_of_cell? _ _ p0)).trans p0)
  have hA1 : AddAt w0 w w1 P n rs rv vs vs := ⟨HA0.out.ti.later hO1.2, KR.of_below hO1.2, fun X _ h => h, hO1.2.size⟩
  go_loopw [4, 5, 6] (fun s m _ wr => ∃ (f M : Nat) (rs1 : List (List UInt8)) (rv1 : Value) (vs1 : List Value) (S : List UInt8), m = .int .i64 M ∧ M < 2 ^ f ∧ f ≤ 8 ∧ Hid (FIN = carryF f M rs1 S) ∧ rs1.length = pcF f M ∧ Hid (∀ i, i < rs1.length → (rs1.getD i []).length = 32) ∧ S.length = 32 ∧ wr.ownsRow w.heap.size 5 1 s S.length (bv S) ∧ AddAt w0 w wr P n rs1 rv1 vs1 vs) (fun _ m _ _ => (intOf m).toNat)
  case atStart => exact ⟨8, n, rs, rv, vs, S0, rfl, by omega, by omega, HF.out, HPC.out, H32.out, hl32, hO1.1, hA1⟩
  case round =>
    obtain ⟨f, M, rs1, rv1, vs1, S, rfl, hM, hf, hFIN, hpc, h32, hS, hO, hA⟩ := hrel
    have hM8 : M < 256 := by
      have : 2 ^ f ≤ 2 ^ 8 := Nat.pow_le_pow_right (by decide) hf
      omega
    have hand := and_one M hM8
    obtain ⟨A, cap, rfl⟩ := hA.ti.shape
    obtain ⟨L, hL⟩ : ∃ L, rs1.length = L := ⟨_, rfl⟩
    rw [hL] at hA
    obtain ⟨c0, c1, cf⟩ := hA.ti.cells
    have hL8 : L ≤ 8 := by
      have hpcle : ∀ f m, pcF f m ≤ f := by
        intro f
        induction f with
        | zero => intro m; simp [pcF]
        | succ f ih => intro m; have := ih (m / 2); rw [pcF_succ]; omega
      have := hpcle f M; omega
    have hLcap : L ≤ cap := by
      obtain ⟨a', c', he, h1, _⟩ := Sl.of_own hA.ti.row
      cases he; rw [hA.ti.len, hL] at h1; exact h1
    have Hcf := Lib.hid cf
    by_cases hodd : M % 2 = 1
    · rw [hodd] at hand
      have hf0 : f ≠ 0 := by intro e; subst e; simp at hM; omega
      obtain ⟨f, rfl⟩ : ∃ g, f = g + 1 := ⟨f - 1, by omega⟩
      rw [carryF, if_pos hodd] at hFIN
      rw [pcF_succ, hodd] at hpc
      obtain ⟨K, rfl⟩ : ∃ K, L = K + 1 := ⟨L - 1, by omega⟩
      rw [hL] at hFIN
      have hk1 : K + 1 - 1 = K := by omega
      rw [hk1] at hFIN
      obtain ⟨bb, oo, rfl, ce, hse⟩ := hA.ti.at K (by omega)
      have he32 := h32.out K (by omega)
      have hb := both_any wr _ _ _ _ hse (Sl.of_own (by rw [bv_length]; exact hO)) (by omega)
      have hKi : ((K + 1 : Nat) : Int) - 1 = K := by omega
      have hK9 : (K : Int) ≤ 9 := by omega
      have hKc : (K : Int) < cap := by omega
      have hM2 := Lib.hid (show ((M / 2 : Nat) : Int) = (M : Int) / 2 by omega)
      have HF := Lib.hid hFIN
      have HA := Lib.hid hA
      have HO := Lib.hid hO
      have H32' := Lib.hid (show ∀ i, i < (rs1.take K).length → ((rs1.take K).getD i []).length = 32 from fun i hi => by
        rw [List.length_take] at hi
        rw [List.getD_eq_getElem?_getD, List.getElem?_take, if_pos (by omega), ← List.getD_eq_getElem?_getD]
        exact h32.out i (by omega))
      have HPC := Lib.hid (show (rs1.take K).length = pcF f (M / 2) by rw [List.length_take]; omega)
      have HL := Lib.hid hL
      have HM := Lib.hid (show M / 2 < 2 ^ f ∧ f ≤ 8 by rw [Nat.pow_succ] at hM; omega)
      have HMlt := Lib.hid (show M / 2 < M by omega)
      obtain ⟨a1, cc1, hsh, _⟩ := hse.openB
      have Hcl := Lib.hid hl32
      clear hFIN hse hO hpc h32 hM hf hA hodd cf hL8 hL hl32
      go_wp2_with (go_at_call 69; refine hb.mono ?_; rintro e w2 ⟨r2, rfl, hO2⟩; clear hb; have hAp := HA.out.pop HL.out hO2.2 K (by omega); obtain ⟨c0', c1', cf'⟩ := (HA.out.ti.later hO2.2).cells; have cf1 := cf' 1; have HAp := Lib.hid hAp; have HO2 := Lib.hid (own_setP (k := 1) (u := .slice (some ⟨bb, oo, none⟩) K cap) (HA.out.ti.later hO2.2).ptr (own_rebase hO2.1 HA.out.size) (by decide)); clear hAp cf')
      refine ⟨⟨f, M / 2, rs1.take K, _, vs1.take K, _, by rw [hM2.out], HM.out.1, HM.out.2, HF.out, HPC.out, H32'.out, sha_length _, HO2.out, HAp.out⟩, ?_⟩
      have := HMlt.out
      simp [intOf]; omega
    · have hm0 : M % 2 = 0 := by omega
      rw [hm0] at hand
      have hFe : Hid (FIN = rs1 ++ [S]) := by
        rw [Hid, hFIN.out]
        cases f with
        | zero => rfl
        | succ f => rw [carryF, if_neg hodd]
      obtain ⟨sa, cs, rfl⟩ := own_shape (show wr.ownsRow w.heap.size 5 1 _ 32 (bv S) by rw [← hS]; exact hO)
      have hal : Below wr.heap.size wr (wr.alloc (.cells #[.slice sa 32 cs] 22)) := (Below.refl _ wr).alloc (Nat.le_refl _) _
      have hsl : Sl wr (.slice sa 32 cs) (bv S) := Sl.of_own (by rw [bv_length]; exact hO)
      have HA := Lib.hid hA
      have HO := Lib.hid hO
      have HL := Lib.hid hL
      have hrow := hA.ti.row
      have hvl : vs1.length = L := hA.ti.len.trans hL
      have HVL := Lib.hid hvl
      rw [hvl] at hrow
      have hrow1 := own_below hrow hal
      have hsn := Sl_new wr 22 [.slice sa 32 cs] (by simp [maxLen])
      have HR := Lib.hid (show ((wr.alloc (.cells #[.slice sa 32 cs] 22)).ownsRow w0.heap.size 22 1 (.slice A L cap) vs1.length vs1) from by rw [hvl]; exact hrow1)
      have HSn := Lib.hid hsn
      have HBz := Lib.hid (Nat.le_trans hA.ti.below.size hal.size)
      have hpt1 := (hA.ti.later hal).ptr
      have HPT := Lib.hid hpt1
      have hn' : (n : Int) < 256 := by omega
      clear hFIN h32 hM hf hodd hpc hal hsl hO hrow hrow1 hsn hpt1 hL hvl hA
      go_wp2_with (at_builtin; refine wpL_app _ rfl _ _ 27 22 _ 24 rfl Try.underlying27 inf22 rfl (by decide) w0.heap.size _ vs1 rfl HR.out _ [.slice sa 32 cs] rfl HSn.out (by simp [Value.oneCell']) (L + 1) (by rw [HVL.out]; rfl) (by omega) HBz.out ?_; intro A2 cap2 w2 hr2 hb2 hg2 _; have HZ := Lib.hid (HA.out.end HB0.out HL.out HO.out hr2 hg2); have hp2 := HA.out.ptr2 hg2; have d0 := (cell_of_row w2 P 0 _ _ _ hp2).trans (show _ = some (Value.int .i64 (n : Int)) from rfl); have d1 := (cell_of_row w2 P 1 _ _ _ hp2).trans (show _ = some (Value.slice A L cap) from rfl); have f0 := frozen_of_row w2 P 0 _ _ hp2; have f1 := frozen_of_row w2 P 1 _ _ hp2; clear hp2)
      go_end0
      have hZ := HZ.out
      rw [← hFe.out, show ((n + 1 : Nat) : Int) = (n : Int) + 1 by simp] at hZ
      exact ⟨rfl, _, _, hZ⟩
end Go.Proofs.Ytllnocffmlagjaa
