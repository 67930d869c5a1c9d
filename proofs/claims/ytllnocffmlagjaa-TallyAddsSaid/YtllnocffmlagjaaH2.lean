/- Contract of (*hash.state).block: a block more. Conditions: a state in a block of memory of its own; 64 bytes. -/
import Derived.Test.YtllnocffmlagjaaH1
import Derived.Test.YtllnocffmlagjaaF3
import Derived.StillTailTactics
set_option linter.unusedVariables false
set_option linter.unusedSimpArgs false
namespace Go.Proofs.Ytllnocffmlagjaa
open Go.RowKit
attribute [local go_sem] yieldUpon
attribute [local go_sem] v32_xor v32_or v32_and v32_not v32_add v32_addm u32_unsigned

/-- A variable of the call's own: a block from base on. -/
def Var (base : Nat) (w : World) (v : Value) (cs : Array Value) (t : TypeId) : Prop := ∃ b, v = .pointer (some ⟨b, 0, none⟩) ∧ base ≤ b ∧ w.heap[b]? = some (.cells cs t (0, 0))
theorem Var.later {base : Nat} {w w' : World} {v : Value} {cs : Array Value} {t : TypeId} (h : Var base w v cs t) (hb : Below w.heap.size w w') : Var base w' v cs t := by
  obtain ⟨b, h1, h2, h3⟩ := h
  exact ⟨b, h1, h2, lives_block _ _ _ _ h3 hb⟩
theorem Var.new (base : Nat) (w : World) (cs : Array Value) (t : TypeId) (h : base ≤ w.heap.size) : Var base (w.alloc (.cells cs t)) (.pointer (some ⟨w.heap.size, 0, none⟩)) cs t :=
  ⟨_, rfl, h, heap_alloc_new w _⟩
theorem Var.ne_new {base : Nat} {w : World} {v : Value} {cs : Array Value} {t : TypeId} (h : Var base w v cs t) : v ≠ .pointer (some ⟨w.heap.size, 0, none⟩) := by
  obtain ⟨b, h1, h2, h3⟩ := h
  have := (Array.getElem?_eq_some_iff.1 h3).1
  rw [h1]
  intro he
  injection he with he; injection he with he; injection he with he
  omega
theorem Var.other {base : Nat} {w : World} {v : Value} {cs : Array Value} {t : TypeId} (h : Var base w v cs t) (g : Nat) (ds : Array Value) (hne : v ≠ .pointer (some ⟨g, 0, none⟩)) : Var base (w.setRow g ds) v cs t := by
  obtain ⟨b, h1, h2, h3⟩ := h
  have hbg : b ≠ g := fun e => hne (by rw [h1, e])
  exact ⟨b, h1, h2, by rw [setRow_other _ _ _ _ hbg]; exact h3⟩

/-- One round of the compression. -/
def rnd (t : List UInt32) (k x : UInt32) : List UInt32 :=
  let a := t.getD 7 0 + sig3 (t.getD 4 0) 6 11 25 + (t.getD 4 0 &&& t.getD 5 0 ^^^ ~~~ t.getD 4 0 &&& t.getD 6 0) + k + x
  let b := sig3 (t.getD 0 0) 2 13 22 + (t.getD 0 0 &&& t.getD 1 0 ^^^ t.getD 0 0 &&& t.getD 2 0 ^^^ t.getD 1 0 &&& t.getD 2 0)
  [a + b, t.getD 0 0, t.getD 1 0, t.getD 2 0, t.getD 3 0 + a, t.getD 4 0, t.getD 5 0, t.getD 6 0]
def rounds (l : List UInt32) (m : List UInt8) : Nat → List UInt32
  | 0 => l
  | k + 1 => rnd (rounds l m k) (kc.getD k 0) ((wl m 64).getD k 0)
/-- The state behind a block. -/
def comp (l : List UInt32) (m : List UInt8) : List UInt32 := List.zipWith (· + ·) l (rounds l m 64)

/-- The first statement of block: three variables of its own. -/
structure J0 (W : World) (m : List UInt8) (l : List UInt32) (L : Nat → Bool) (ν : Nat → Value) (w : World) : Prop where
  below : Below W.heap.size W w
  v6 : L 6 = true → Var W.heap.size w (ν 6) (if L 9 then arr64 (wl m 64) else arr64 []) 80
  v7 : L 7 = true → Var W.heap.size w (ν 7) (if L 10 then arr64 kc else arr64 []) 80
  v8 : L 8 = true → Var W.heap.size w (ν 8) (if L 11 then arr8 l else arr8 (List.replicate 8 0)) 74
  n67 : L 6 = true → L 7 = true → ν 6 ≠ ν 7
  n68 : L 6 = true → L 8 = true → ν 6 ≠ ν 8
  n78 : L 7 = true → L 8 = true → ν 7 ≠ ν 8
  o9 : L 9 = true → L 6 = true
  o10 : L 10 = true → L 7 = true
  o11 : L 11 = true → L 8 = true
theorem J0.later {W w w' : World} {m : List UInt8} {l : List UInt32} {L : Nat → Bool} {ν : Nat → Value} (h : J0 W m l L ν w) (hb : Below w.heap.size w w') : J0 W m l L ν w' :=
  ⟨below_then h.below h.below.size hb, fun h6 => (h.v6 h6).later hb, fun h7 => (h.v7 h7).later hb, fun h8 => (h.v8 h8).later hb, h.n67, h.n68, h.n78, h.o9, h.o10, h.o11⟩
/-- Operations that make or write no variable. -/
theorem J0.idle {W w : World} {m : List UInt8} {l : List UInt32} {L : Nat → Bool} {ν : Nat → Value} (h : J0 W m l L ν w) (i : Nat) (hi : i < 6) (u : Value) :
    J0 W m l (fun k => k == i || L k) (fun k => if k = i then u else ν k) w := by
  have e : ∀ k, 6 ≤ k → (k == i) = false := fun k hk => by rw [beq_eq_false_iff_ne]; omega
  have e2 : ∀ k, 6 ≤ k → ¬ k = i := fun k hk => by omega
  obtain ⟨h1, h2, h3, h4, h5, h6, h7, h8, h9, h10⟩ := h
  constructor <;> try simp only [e _ (show 6 ≤ 6 by omega), e _ (show 6 ≤ 7 by omega), e _ (show 6 ≤ 8 by omega), e _ (show 6 ≤ 9 by omega), e _ (show 6 ≤ 10 by omega), e _ (show 6 ≤ 11 by omega),
    e2 _ (show 6 ≤ 6 by omega), e2 _ (show 6 ≤ 7 by omega), e2 _ (show 6 ≤ 8 by omega), Bool.false_or, if_false]
  all_goals assumption

theorem J0.alloc6 {W w : World} {m : List UInt8} {l : List UInt32} {L : Nat → Bool} {ν : Nat → Value} (h : J0 W m l L ν w) (h6 : L 6 = false) :
    J0 W m l (fun k => k == 6 || L k) (fun k => if k = 6 then .pointer (some ⟨w.heap.size, 0, none⟩) else ν k) (w.alloc (.cells (arr64 []) 80)) := by
  have hb : Below w.heap.size w (w.alloc (.cells (arr64 []) 80)) := (Below.refl _ w).alloc (Nat.le_refl _) _
  have h' := h.later hb
  have h9 : L 9 = false := by
    cases hx : L 9 with
    | false => rfl
    | true => rw [h.o9 hx] at h6; cases h6
  refine ⟨h'.below, fun _ => ?_, fun h7 => ?_, fun h8 => ?_, fun _ h7 => ?_, fun _ h8 => ?_, fun h7 h8 => ?_, fun h => ?_, fun h => ?_, fun h => ?_⟩
  · have e : ((9 : Nat) == 6 || L 9) = false := by rw [h9]; rfl
    simp only [if_true, e, Bool.false_eq_true, if_false]
    exact Var.new _ w _ _ h.below.size
  · exact h'.v7 (by simpa using h7)
  · exact h'.v8 (by simpa using h8)
  · exact fun e => (h.v7 (by simpa using h7)).ne_new (by simpa using e.symm)
  · exact fun e => (h.v8 (by simpa using h8)).ne_new (by simpa using e.symm)
  · exact h'.n78 (by simpa using h7) (by simpa using h8)
  · rfl
  · simpa using h'.o10 (by simpa using h)
  · simpa using h'.o11 (by simpa using h)

theorem J0.alloc7 {W w : World} {m : List UInt8} {l : List UInt32} {L : Nat → Bool} {ν : Nat → Value} (h : J0 W m l L ν w) (h7 : L 7 = false) :
    J0 W m l (fun k => k == 7 || L k) (fun k => if k = 7 then .pointer (some ⟨w.heap.size, 0, none⟩) else ν k) (w.alloc (.cells (arr64 []) 80)) := by
  have hb : Below w.heap.size w (w.alloc (.cells (arr64 []) 80)) := (Below.refl _ w).alloc (Nat.le_refl _) _
  have h' := h.later hb
  have h10 : L 10 = false := by
    cases hx : L 10 with
    | false => rfl
    | true => rw [h.o10 hx] at h7; cases h7
  refine ⟨h'.below, fun h6 => ?_, fun _ => ?_, fun h8 => ?_, fun h6 _ => ?_, fun h6 h8 => ?_, fun _ h8 => ?_, fun h => ?_, fun h => ?_, fun h => ?_⟩
  · exact h'.v6 (by simpa using h6)
  · have e : ((10 : Nat) == 7 || L 10) = false := by rw [h10]; rfl
    simp only [if_true, e, Bool.false_eq_true, if_false]
    exact Var.new _ w _ _ h.below.size
  · exact h'.v8 (by simpa using h8)
  · exact fun e => (h.v6 (by simpa using h6)).ne_new (by simpa using e)
  · exact h'.n68 (by simpa using h6) (by simpa using h8)
  · exact fun e => (h.v8 (by simpa using h8)).ne_new (by simpa using e.symm)
  · simpa using h'.o9 (by simpa using h)
  · rfl
  · simpa using h'.o11 (by simpa using h)

theorem J0.alloc8 {W w : World} {m : List UInt8} {l : List UInt32} {L : Nat → Bool} {ν : Nat → Value} (h : J0 W m l L ν w) (h8 : L 8 = false) :
    J0 W m l (fun k => k == 8 || L k) (fun k => if k = 8 then .pointer (some ⟨w.heap.size, 0, none⟩) else ν k) (w.alloc (.cells (arr8 (List.replicate 8 0)) 74)) := by
  have hb : Below w.heap.size w (w.alloc (.cells (arr8 (List.replicate 8 0)) 74)) := (Below.refl _ w).alloc (Nat.le_refl _) _
  have h' := h.later hb
  have h11 : L 11 = false := by
    cases hx : L 11 with
    | false => rfl
    | true => rw [h.o11 hx] at h8; cases h8
  refine ⟨h'.below, fun h6 => ?_, fun h7 => ?_, fun _ => ?_, fun h6 h7 => ?_, fun h6 _ => ?_, fun h7 _ => ?_, fun h => ?_, fun h => ?_, fun h => ?_⟩
  · exact h'.v6 (by simpa using h6)
  · exact h'.v7 (by simpa using h7)
  · have e : ((11 : Nat) == 8 || L 11) = false := by rw [h11]; rfl
    simp only [if_true, e, Bool.false_eq_true, if_false]
    exact Var.new _ w _ _ h.below.size
  · exact h'.n67 (by simpa using h6) (by simpa using h7)
  · exact fun e => (h.v6 (by simpa using h6)).ne_new (by simpa using e)
  · exact fun e => (h.v7 (by simpa using h7)).ne_new (by simpa using e)
  · simpa using h'.o9 (by simpa using h)
  · simpa using h'.o10 (by simpa using h)
  · rfl

theorem Var.stored {base : Nat} {w : World} {b : Nat} {cur cs : Array Value} {t : TypeId} (h1 : base ≤ b) (h : w.heap[b]? = some (.cells cur t (0, 0))) : Var base (w.setRow b cs) (.pointer (some ⟨b, 0, none⟩)) cs t :=
  ⟨b, rfl, h1, setRow_heap _ _ _ _ _ _ h⟩
theorem J0.store9 {W w : World} {m : List UInt8} {l : List UInt32} {L : Nat → Bool} {ν : Nat → Value} (h : J0 W m l L ν w) (h6 : L 6 = true) (h9 : L 9 = false) {b : Nat} (hb : ν 6 = .pointer (some ⟨b, 0, none⟩)) :
    J0 W m l (fun k => k == 9 || L k) (fun k => if k = 9 then undef else ν k) (w.setRow b (arr64 (wl m 64))) := by
  obtain ⟨b', hb1, hb2, hb3⟩ := h.v6 h6
  have hbb : b' = b := by rw [hb] at hb1; injection hb1 with e; injection e with e; injection e with e; exact e.symm
  subst hbb
  have hx := h
  refine ⟨below_setRow h.below hb2 _, fun _ => ?_, fun h7 => ?_, fun h8 => ?_, fun h6 h7 => ?_, fun h6 h8 => ?_, fun h7 h8 => ?_, fun h => ?_, fun h => ?_, fun h => ?_⟩
  · show Var _ _ (ν 6) _ _
    simp only [beq_self_eq_true, Bool.true_or, if_true]
    rw [hb]
    exact Var.stored hb2 hb3
  · exact (h.v7 (by simpa using h7)).other _ _ (by rw [← hb]; exact (h.n67 h6 (by simpa using h7)).symm)
  · exact (h.v8 (by simpa using h8)).other _ _ (by rw [← hb]; exact (h.n68 h6 (by simpa using h8)).symm)
  · exact h.n67 (by simpa using h6) (by simpa using h7)
  · exact h.n68 (by simpa using h6) (by simpa using h8)
  · exact h.n78 (by simpa using h7) (by simpa using h8)
  · simpa using h6
  · simpa using hx.o10 (by simpa using h)
  · simpa using hx.o11 (by simpa using h)

theorem J0.store10 {W w : World} {m : List UInt8} {l : List UInt32} {L : Nat → Bool} {ν : Nat → Value} (h : J0 W m l L ν w) (h7 : L 7 = true) (h10 : L 10 = false) {b : Nat} (hb : ν 7 = .pointer (some ⟨b, 0, none⟩)) :
    J0 W m l (fun k => k == 10 || L k) (fun k => if k = 10 then undef else ν k) (w.setRow b (arr64 kc)) := by
  obtain ⟨b', hb1, hb2, hb3⟩ := h.v7 h7
  have hbb : b' = b := by rw [hb] at hb1; injection hb1 with e; injection e with e; injection e with e; exact e.symm
  subst hbb
  have hx := h
  refine ⟨below_setRow h.below hb2 _, fun h6 => ?_, fun _ => ?_, fun h8 => ?_, fun h6 h7 => ?_, fun h6 h8 => ?_, fun h7 h8 => ?_, fun h => ?_, fun h => ?_, fun h => ?_⟩
  · exact (h.v6 (by simpa using h6)).other _ _ (by rw [← hb]; exact (h.n67 (by simpa using h6) h7))
  · show Var _ _ (ν 7) _ _
    simp only [beq_self_eq_true, Bool.true_or, if_true]
    rw [hb]
    exact Var.stored hb2 hb3
  · exact (h.v8 (by simpa using h8)).other _ _ (by rw [← hb]; exact (h.n78 h7 (by simpa using h8)).symm)
  · exact h.n67 (by simpa using h6) (by simpa using h7)
  · exact h.n68 (by simpa using h6) (by simpa using h8)
  · exact h.n78 (by simpa using h7) (by simpa using h8)
  · simpa using hx.o9 (by simpa using h)
  · simpa using h7
  · simpa using hx.o11 (by simpa using h)

theorem J0.store11 {W w : World} {m : List UInt8} {l : List UInt32} {L : Nat → Bool} {ν : Nat → Value} (h : J0 W m l L ν w) (h8 : L 8 = true) (h11 : L 11 = false) {b : Nat} (hb : ν 8 = .pointer (some ⟨b, 0, none⟩)) :
    J0 W m l (fun k => k == 11 || L k) (fun k => if k = 11 then undef else ν k) (w.setRow b (arr8 l)) := by
  obtain ⟨b', hb1, hb2, hb3⟩ := h.v8 h8
  have hbb : b' = b := by rw [hb] at hb1; injection hb1 with e; injection e with e; injection e with e; exact e.symm
  subst hbb
  have hx := h
  refine ⟨below_setRow h.below hb2 _, fun h6 => ?_, fun h7 => ?_, fun _ => ?_, fun h6 h7 => ?_, fun h6 h8 => ?_, fun h7 h8 => ?_, fun h => ?_, fun h => ?_, fun h => ?_⟩
  · exact (h.v6 (by simpa using h6)).other _ _ (by rw [← hb]; exact (h.n68 (by simpa using h6) h8))
  · exact (h.v7 (by simpa using h7)).other _ _ (by rw [← hb]; exact (h.n78 (by simpa using h7) h8))
  · show Var _ _ (ν 8) _ _
    simp only [beq_self_eq_true, Bool.true_or, if_true]
    rw [hb]
    exact Var.stored hb2 hb3
  · exact h.n67 (by simpa using h6) (by simpa using h7)
  · exact h.n68 (by simpa using h6) (by simpa using h8)
  · exact h.n78 (by simpa using h7) (by simpa using h8)
  · simpa using hx.o9 (by simpa using h)
  · simpa using hx.o10 (by simpa using h)
  · simpa using h8

def e53 (W : World) (g : Nat) (p : Value) (m : List UInt8) (l : List UInt32) : Nat → Option Value
  | 0 => some p
  | 1 => some (.agg (arr64 (wl m 64)))
  | 2 => some (.agg (arr64 kc))
  | 3 => some (.pointer (some ⟨g, 0, none⟩))
  | 4 => some (.pointer (some ⟨g, 0, none⟩))
  | 5 => some (.agg (arr8 l))
  | 6 => none
  | 7 => none
  | 8 => none
  | _ => some undef

structure Blk (w : World) (g b4 b5 b6 : Nat) (m : List UInt8) (l : List UInt32) (k : Nat) (wr : World) : Prop where
  h4 : wr.heap[b4]? = some (.cells (arr64 (wl m 64)) 80 (0, 0))
  h5 : wr.heap[b5]? = some (.cells (arr64 kc) 80 (0, 0))
  h6 : wr.heap[b6]? = some (.cells (arr8 (rounds l m k)) 74 (0, 0))
  below : Below w.heap.size w wr
theorem Blk.drewN {w : World} {g b4 b5 b6 : Nat} {m : List UInt8} {l : List UInt32} {k : Nat} {wr : World} (h : Blk w g b4 b5 b6 m l k wr) (n : Nat) : Blk w g b4 b5 b6 m l k (wr.drewN n) :=
  ⟨h.h4, h.h5, h.h6, below_drewN h.below n⟩
theorem rounds_length (l : List UInt32) (m : List UInt8) (h : l.length = 8) (k : Nat) : (rounds l m k).length = 8 := by
  induction k with
  | zero => exact h
  | succ k ih => rfl
theorem arr8_at (l : List UInt32) (j : Nat) (h : j < l.length) : (arr8 l)[j]? = some (.int .u32 (V32 (l.getD j 0))) := by
  simp [arr8, wv, h, List.getD_eq_getElem?_getD]
theorem arr8_eight (l : List UInt32) (h : l.length = 8) : arr8 l = #[.int .u32 (V32 (l.getD 0 0)), .int .u32 (V32 (l.getD 1 0)), .int .u32 (V32 (l.getD 2 0)), .int .u32 (V32 (l.getD 3 0)), .int .u32 (V32 (l.getD 4 0)), .int .u32 (V32 (l.getD 5 0)), .int .u32 (V32 (l.getD 6 0)), .int .u32 (V32 (l.getD 7 0))] := by
  match l, h with
  | [a, b, c, d, e, f, g, i], _ => rfl
theorem Blk.step {w : World} {g b4 b5 b6 : Nat} {m : List UInt8} {l : List UInt32} {k : Nat} {wr : World} (h : Blk w g b4 b5 b6 m l k wr) (h46 : b4 ≠ b6) (h56 : b5 ≠ b6) (hb6 : w.heap.size ≤ b6) :
    Blk w g b4 b5 b6 m l (k + 1) (wr.setRow b6 (arr8 (rnd (rounds l m k) (kc.getD k 0) ((wl m 64).getD k 0)))) :=
  ⟨by rw [setRow_other _ _ _ _ h46]; exact h.h4, by rw [setRow_other _ _ _ _ h56]; exact h.h5, setRow_heap _ _ _ _ _ _ h.h6, below_setRow h.below hb6 _⟩
theorem Blk.c6 {w : World} {g b4 b5 b6 : Nat} {m : List UInt8} {l : List UInt32} {k : Nat} {wr : World} (h : Blk w g b4 b5 b6 m l k wr) (hl : l.length = 8) (j : Nat) (hj : j < 8) :
    wr.cell? ⟨b6, j, none⟩ = some (.int .u32 (V32 ((rounds l m k).getD j 0))) := by
  rw [cell_of_row _ _ _ _ _ _ h.h6, arr8_at _ _ (by rw [rounds_length l m hl]; exact hj)]
theorem Blk.c5 {w : World} {g b4 b5 b6 : Nat} {m : List UInt8} {l : List UInt32} {k : Nat} {wr : World} (h : Blk w g b4 b5 b6 m l k wr) (j : Nat) (hj : j < 64) :
    wr.cell? ⟨b5, j, none⟩ = some (.int .u32 (V32 (kc.getD j 0))) := by
  rw [cell_of_row _ _ _ _ _ _ h.h5, arr64_at _ _ (by simpa [kc] using hj)]
theorem Blk.c4 {w : World} {g b4 b5 b6 : Nat} {m : List UInt8} {l : List UInt32} {k : Nat} {wr : World} (h : Blk w g b4 b5 b6 m l k wr) (j : Nat) (hj : j < 64) :
    wr.cell? ⟨b4, j, none⟩ = some (.int .u32 (V32 ((wl m 64).getD j 0))) := by
  rw [cell_of_row _ _ _ _ _ _ h.h4, arr64_at _ _ (by rw [wl_length]; exact hj)]
theorem build8 (x0 x1 x2 x3 x4 x5 x6 x7 : Int) (w : World) :
    (Instr.build 74 #[(0, .int .u32 x0), (1, .int .u32 x1), (2, .int .u32 x2), (3, .int .u32 x3), (4, .int .u32 x4), (5, .int .u32 x5), (6, .int .u32 x6), (7, .int .u32 x7)]).run Try.prog w =
      .ok (.agg #[.int .u32 x0, .int .u32 x1, .int .u32 x2, .int .u32 x3, .int .u32 x4, .int .u32 x5, .int .u32 x6, .int .u32 x7]) w := by kernel_rfl

/-- The state when k of its words have been added. -/
def mix (l T : List UInt32) (k : Nat) : List UInt32 := (List.range 8).map fun j => if j < k then l.getD j 0 + T.getD j 0 else l.getD j 0
theorem mix_zero (l T : List UInt32) (h : l.length = 8) : mix l T 0 = l := by
  match l, h with
  | [a, b, c, d, e, f, g, i], _ => rfl
theorem mix_end (l T : List UInt32) (h : l.length = 8) (h' : T.length = 8) : mix l T 8 = List.zipWith (· + ·) l T := by
  match l, h, T, h' with
  | [a, b, c, d, e, f, g, i], _, [a', b', c', d', e', f', g', i'], _ => rfl
theorem mix_at (l T : List UInt32) (k : Nat) (hk : k < 8) : (arr8 (mix l T k))[k]? = some (.int .u32 (V32 (l.getD k 0))) := by
  simp [arr8, wv, mix, hk]
theorem mix_step (l T : List UInt32) (k : Nat) (hk : k < 8) : (arr8 (mix l T k)).setIfInBounds k (.int .u32 (V32 (l.getD k 0 + T.getD k 0))) = arr8 (mix l T (k + 1)) := by
  obtain rfl | rfl | rfl | rfl | rfl | rfl | rfl | rfl : k = 0 ∨ k = 1 ∨ k = 2 ∨ k = 3 ∨ k = 4 ∨ k = 5 ∨ k = 6 ∨ k = 7 := by omega
  all_goals rfl
structure Fin8 (w : World) (g b6 : Nat) (l T : List UInt32) (k : Nat) (wr : World) : Prop where
  hg : wr.heap[g]? = some (.cells (arr8 (mix l T k)) 74 (0, 0))
  h6 : wr.heap[b6]? = some (.cells (arr8 T) 74 (0, 0))
  grown : w.grownBy wr (some g)
theorem Fin8.step {w : World} {g b6 : Nat} {l T : List UInt32} {k : Nat} {wr : World} (h : Fin8 w g b6 l T k wr) (hk : k < 8) (hne : b6 ≠ g) :
    Fin8 w g b6 l T (k + 1) (wr.setCell ⟨g, k, none⟩ (.int .u32 (V32 (l.getD k 0 + T.getD k 0)))) := by
  refine ⟨?_, ?_, ?_⟩
  · rw [heap_setCell_same _ _ _ _ _ _ h.hg, mix_step l T k hk]
  · rw [heap_setCell_other _ _ _ _ hne]; exact h.h6
  · exact h.grown.trans ⟨rfl, rfl, rfl, by simp [World.setCell], fun i _ hi => heap_setCell_other _ _ _ _ (fun e => hi (by rw [e]))⟩
theorem Fin8.drew {w : World} {g b6 : Nat} {l T : List UInt32} {k : Nat} {wr : World} (h : Fin8 w g b6 l T k wr) : Fin8 w g b6 l T k wr.drew :=
  ⟨h.hg, h.h6, h.grown.trans ⟨rfl, rfl, rfl, Nat.le_refl _, fun _ _ _ => rfl⟩⟩

theorem J0.step9 {W w : World} {g : Nat} {p : Value} {m : List UInt8} {l : List UInt32} {L : Nat → Bool} {ν : Nat → Value} (h : J0 W m l L ν w) (hl : l.length = 8) (hk : L 6 = true) (hi : L 9 = false) {ρ : Operand → Value} {o : Oper}
    (ho : o.op = .store 80 (.tmp 4) (.tmp 12)) (h1 : ρ (.tmp 4) = ν 6) (h2 : ρ (.tmp 12) = .agg (arr64 (wl m 64))) :
    yieldUpon Try.prog w (fun u w' => (∀ v, e53 W g p m l 9 = some v → u = v) ∧ J0 W m l (fun k => k == 9 || L k) (fun k => if k = 9 then u else ν k) w') ((execOp ρ o).run Try.prog w) := by
  obtain ⟨b, hb1, hb2, hb3⟩ := h.v6 hk
  rw [if_neg (by rw [hi]; simp)] at hb3
  rw [exec_store 80 (.tmp 4) (.tmp 12) ho ⟨b, 0, none⟩ (h1.trans hb1) (.agg (arr64 (wl m 64))) h2 (run_storeRow (P := Try.prog) w b 80 80 _ (arr64 (wl m 64)) hb3 (by rw [arr64_size _ (by rw [wl_length]; omega), arr64_size _ (by simp)]) (inf80 _ (arr64_size _ (by rw [wl_length]; omega))) (arr64_one _))]
  exact ⟨fun v hv => by cases hv; rfl, h.store9 hk hi hb1⟩
theorem J0.step10 {W w : World} {g : Nat} {p : Value} {m : List UInt8} {l : List UInt32} {L : Nat → Bool} {ν : Nat → Value} (h : J0 W m l L ν w) (hl : l.length = 8) (hk : L 7 = true) (hi : L 10 = false) {ρ : Operand → Value} {o : Oper}
    (ho : o.op = .store 80 (.tmp 5) (.tmp 13)) (h1 : ρ (.tmp 5) = ν 7) (h2 : ρ (.tmp 13) = .agg (arr64 kc)) :
    yieldUpon Try.prog w (fun u w' => (∀ v, e53 W g p m l 10 = some v → u = v) ∧ J0 W m l (fun k => k == 10 || L k) (fun k => if k = 10 then u else ν k) w') ((execOp ρ o).run Try.prog w) := by
  obtain ⟨b, hb1, hb2, hb3⟩ := h.v7 hk
  rw [if_neg (by rw [hi]; simp)] at hb3
  rw [exec_store 80 (.tmp 5) (.tmp 13) ho ⟨b, 0, none⟩ (h1.trans hb1) (.agg (arr64 kc)) h2 (run_storeRow (P := Try.prog) w b 80 80 _ (arr64 kc) hb3 (by rw [kc_len, arr64_size _ (by simp)]) (inf80 _ kc_len) (arr64_one _))]
  exact ⟨fun v hv => by cases hv; rfl, h.store10 hk hi hb1⟩
theorem J0.step11 {W w : World} {g : Nat} {p : Value} {m : List UInt8} {l : List UInt32} {L : Nat → Bool} {ν : Nat → Value} (h : J0 W m l L ν w) (hl : l.length = 8) (hk : L 8 = true) (hi : L 11 = false) {ρ : Operand → Value} {o : Oper}
    (ho : o.op = .store 74 (.tmp 6) (.tmp 16)) (h1 : ρ (.tmp 6) = ν 8) (h2 : ρ (.tmp 16) = .agg (arr8 l)) :
    yieldUpon Try.prog w (fun u w' => (∀ v, e53 W g p m l 11 = some v → u = v) ∧ J0 W m l (fun k => k == 11 || L k) (fun k => if k = 11 then u else ν k) w') ((execOp ρ o).run Try.prog w) := by
  obtain ⟨b, hb1, hb2, hb3⟩ := h.v8 hk
  rw [if_neg (by rw [hi]; simp)] at hb3
  rw [exec_store 74 (.tmp 6) (.tmp 16) ho ⟨b, 0, none⟩ (h1.trans hb1) (.agg (arr8 l)) h2 (run_storeRow (P := Try.prog) w b 74 74 _ (arr8 l) hb3 (by simp [arr8, wv, hl]) (inf74 _ (by simp [arr8, wv, hl])) (wv_one _))]
  exact ⟨fun v hv => by cases hv; rfl, h.store11 hk hi hb1⟩
set_option maxRecDepth 100000 in
set_option maxHeartbeats 1000000 in
theorem block_any (w : World) (g : Nat) (p : Value) (m : List UInt8) (l : List UInt32) (hl : l.length = 8) (hg : w.heap[g]? = some (.cells (arr8 l) 74 (0, 0))) (hp : Sl w p (bv m)) (h64 : m.length = 64) :
    Calls Try.prog 53 #[.pointer (some ⟨g, 0, none⟩), p] w fun e w' => e = .returned (.tuple #[]) ∧ w'.heap[g]? = some (.cells (arr8 (comp l m)) 74 (0, 0)) ∧ w.grownBy w' (some g) := by
  go_enter Try.func53, Try.ntmps53
  go_wp2_with fail
  refine wp_flowJ 12 (by kernel_rfl) (by kernel_rfl) (e53 w g p m l) (J0 w m l) (fun ν => ⟨below_drawn w 1, nofun, nofun, nofun, nofun, nofun, nofun, nofun, nofun, nofun⟩) (by simp) ?_ ?_
  · intro i o hi ho L ν w1 hLi hdep hJ
    match i, hi with
    | 0, _ =>
      simp only [List.getElem?_cons_zero, List.getElem?_cons_succ, Option.some.injEq] at ho
      subst ho
      generalize hR : (fun (u : Value) (w' : World) => (∀ v, e53 w g p m l 0 = some v → u = v) ∧ J0 w m l (fun k => k == 0 || L k) (fun k => if k = 0 then u else ν k) w') = R
      simp only [lexV, foldP, dstAt, e53, List.getElem?_toArray, List.getElem?_cons_succ, List.getElem?_cons_zero, Option.bind_some, Option.getD_some, Option.getD_none, Act.put, List.setIfInBounds_toArray, List.set_cons_zero, List.set_cons_succ, if_true]
      go_simp
      subst hR
      exact ⟨fun v hv => by cases hv; rfl, hJ.idle 0 (by decide) _⟩
    | 1, _ =>
      simp only [List.getElem?_cons_zero, List.getElem?_cons_succ, Option.some.injEq] at ho
      subst ho
      generalize hR : (fun (u : Value) (w' : World) => (∀ v, e53 w g p m l 1 = some v → u = v) ∧ J0 w m l (fun k => k == 1 || L k) (fun k => if k = 1 then u else ν k) w') = R
      simp only [lexV, foldP, dstAt, e53, List.getElem?_toArray, List.getElem?_cons_succ, List.getElem?_cons_zero, Option.bind_some, Option.getD_some, Option.getD_none, Act.put, List.setIfInBounds_toArray, List.set_cons_zero, List.set_cons_succ, if_true]
      go_simp
      refine (plan_any w1 p m (hp.below hJ.below) h64).mono ?_
      rintro e w2 ⟨rfl, hb⟩
      subst hR
      exact ⟨_, rfl, fun v hv => by cases hv; rfl, (hJ.later hb).idle 1 (by decide) _⟩
    | 2, _ =>
      simp only [List.getElem?_cons_zero, List.getElem?_cons_succ, Option.some.injEq] at ho
      subst ho
      generalize hR : (fun (u : Value) (w' : World) => (∀ v, e53 w g p m l 2 = some v → u = v) ∧ J0 w m l (fun k => k == 2 || L k) (fun k => if k = 2 then u else ν k) w') = R
      simp only [lexV, foldP, dstAt, e53, List.getElem?_toArray, List.getElem?_cons_succ, List.getElem?_cons_zero, Option.bind_some, Option.getD_some, Option.getD_none, Act.put, List.setIfInBounds_toArray, List.set_cons_zero, List.set_cons_succ, if_true]
      go_simp
      refine (constants_any w1).mono ?_
      rintro e w2 ⟨rfl, hb⟩
      subst hR
      exact ⟨_, rfl, fun v hv => by cases hv; rfl, (hJ.later hb).idle 2 (by decide) _⟩
    | 3, _ =>
      simp only [List.getElem?_cons_zero, List.getElem?_cons_succ, Option.some.injEq] at ho
      subst ho
      generalize hR : (fun (u : Value) (w' : World) => (∀ v, e53 w g p m l 3 = some v → u = v) ∧ J0 w m l (fun k => k == 3 || L k) (fun k => if k = 3 then u else ν k) w') = R
      simp only [lexV, foldP, dstAt, e53, List.getElem?_toArray, List.getElem?_cons_succ, List.getElem?_cons_zero, Option.bind_some, Option.getD_some, Option.getD_none, Act.put, List.setIfInBounds_toArray, List.set_cons_zero, List.set_cons_succ, if_true]
      go_simp
      subst hR
      exact ⟨fun v hv => by cases hv; rfl, hJ.idle 3 (by decide) _⟩
    | 4, _ =>
      simp only [List.getElem?_cons_zero, List.getElem?_cons_succ, Option.some.injEq] at ho
      subst ho
      generalize hR : (fun (u : Value) (w' : World) => (∀ v, e53 w g p m l 4 = some v → u = v) ∧ J0 w m l (fun k => k == 4 || L k) (fun k => if k = 4 then u else ν k) w') = R
      simp only [lexV, foldP, dstAt, e53, List.getElem?_toArray, List.getElem?_cons_succ, List.getElem?_cons_zero, Option.bind_some, Option.getD_some, Option.getD_none, Act.put, List.setIfInBounds_toArray, List.set_cons_zero, List.set_cons_succ, if_true]
      go_simp
      subst hR
      exact ⟨fun v hv => by cases hv; rfl, hJ.idle 4 (by decide) _⟩
    | 5, _ =>
      simp only [List.getElem?_cons_zero, List.getElem?_cons_succ, Option.some.injEq] at ho
      subst ho
      generalize hR : (fun (u : Value) (w' : World) => (∀ v, e53 w g p m l 5 = some v → u = v) ∧ J0 w m l (fun k => k == 5 || L k) (fun k => if k = 5 then u else ν k) w') = R
      simp only [lexV, foldP, dstAt, e53, List.getElem?_toArray, List.getElem?_cons_succ, List.getElem?_cons_zero, Option.bind_some, Option.getD_some, Option.getD_none, Act.put, List.setIfInBounds_toArray, List.set_cons_zero, List.set_cons_succ, if_true]
      have hg1 := lives_block _ _ _ _ hg hJ.below
      have hld := run_loadVar_row (P := Try.prog) w1 g 74 74 (arr8 l) (0, 0) (.array 8 72) hg1 Try.underlying74 rfl (inf74 _ (by simp [arr8, wv, hl]))
      rw [exec_load 74 (.tmp 15) rfl ⟨g, 0, none⟩ rfl _ hld]
      subst hR
      exact ⟨fun v hv => by cases hv; rfl, hJ.idle 5 (by decide) _⟩
    | 6, _ =>
      simp only [List.getElem?_cons_zero, List.getElem?_cons_succ, Option.some.injEq] at ho
      subst ho
      rw [exec_alloc 80 rfl (.agg (arr64 [])) (by kernel_rfl)]
      exact ⟨nofun, hJ.alloc6 hLi⟩
    | 7, _ =>
      simp only [List.getElem?_cons_zero, List.getElem?_cons_succ, Option.some.injEq] at ho
      subst ho
      rw [exec_alloc 80 rfl (.agg (arr64 [])) (by kernel_rfl)]
      exact ⟨nofun, hJ.alloc7 hLi⟩
    | 8, _ =>
      simp only [List.getElem?_cons_zero, List.getElem?_cons_succ, Option.some.injEq] at ho
      subst ho
      rw [exec_alloc 74 rfl (.agg (arr8 (List.replicate 8 0))) (by kernel_rfl)]
      exact ⟨nofun, hJ.alloc8 hLi⟩
    | 9, _ =>
      simp only [List.getElem?_cons_zero, List.getElem?_cons_succ, Option.some.injEq] at ho
      subst ho
      generalize hρ : (lexV _ _ _ ν 9).eval = ρ
      refine hJ.step9 hl (hdep 6 (by kernel_rfl)) hLi (by rfl) ?_ ?_
      · rw [← hρ]; kernel_rfl
      · rw [← hρ]; kernel_rfl
    | 10, _ =>
      simp only [List.getElem?_cons_zero, List.getElem?_cons_succ, Option.some.injEq] at ho
      subst ho
      generalize hρ : (lexV _ _ _ ν 10).eval = ρ
      refine hJ.step10 hl (hdep 7 (by kernel_rfl)) hLi (by rfl) ?_ ?_
      · rw [← hρ]; kernel_rfl
      · rw [← hρ]; kernel_rfl
    | 11, _ =>
      simp only [List.getElem?_cons_zero, List.getElem?_cons_succ, Option.some.injEq] at ho
      subst ho
      generalize hρ : (lexV _ _ _ ν 11).eval = ρ
      refine hJ.step11 hl (hdep 8 (by kernel_rfl)) hLi (by rfl) ?_ ?_
      · rw [← hρ]; kernel_rfl
      · rw [← hρ]; kernel_rfl
    | n + 12, h => omega
  · intro L ν w1 hL hJ
    have hV6 := hJ.v6 (hL 6 (by decide))
    have hV7 := hJ.v7 (hL 7 (by decide))
    have hV8 := hJ.v8 (hL 8 (by decide))
    have h67 := hJ.n67 (hL 6 (by decide)) (hL 7 (by decide))
    have h68 := hJ.n68 (hL 6 (by decide)) (hL 8 (by decide))
    have h78 := hJ.n78 (hL 7 (by decide)) (hL 8 (by decide))
    rw [if_pos (hL 9 (by decide))] at hV6
    rw [if_pos (hL 10 (by decide))] at hV7
    rw [if_pos (hL 11 (by decide))] at hV8
    have hB := hJ.below
    clear hJ hL
    simp only [lexV, foldP, dstAt, e53, List.getElem?_toArray, List.getElem?_cons_succ, List.getElem?_cons_zero, Option.bind_some, Option.getD_some, Option.getD_none, Act.put, List.setIfInBounds_toArray, List.set_cons_zero, List.set_cons_succ, if_true]
    generalize ν 6 = p4 at *
    generalize ν 7 = p5 at *
    generalize ν 8 = p6 at *
    clear ν L
    obtain ⟨b4, rfl, hb4, h4⟩ := hV6
    obtain ⟨b5, rfl, hb5, h5⟩ := hV7
    obtain ⟨b6, rfl, hb6, h6⟩ := hV8
    simp only [List.drop_succ_cons, List.drop_zero]
    have H46 : b4 ≠ b6 := fun e => h68 (by rw [e])
    have H56 : b5 ≠ b6 := fun e => h78 (by rw [e])
    have hk0 : Blk w g b4 b5 b6 m l 0 w1 := ⟨h4, h5, h6, hB⟩
    have H64 := Lib.hid h64
    have HL := Lib.hid hl
    have HG := Lib.hid hg
    clear h67 h68 h78 h4 h5 h6 hB h64 hl hg
    go_wp2
    go_loopw [7, 8, 9, 17] (fun _ _ _ i wr => ∃ k : Nat, k ≤ 64 ∧ i = .int .i64 k ∧ Blk w g b4 b5 b6 m l k wr) (fun _ _ _ i _ => (64 - intOf i).toNat)
    case atStart => exact ⟨0, by omega, rfl, hk0⟩
    case round =>
      obtain ⟨k, hk, rfl, hP⟩ := hrel
      by_cases hlt : k < 64
      · have hlt' : (k : Int) < 64 := by omega
        have c0 := hP.c6 HL.out 0 (by omega)
        have c1 := hP.c6 HL.out 1 (by omega)
        have c2 := hP.c6 HL.out 2 (by omega)
        have c3 := hP.c6 HL.out 3 (by omega)
        have c4 := hP.c6 HL.out 4 (by omega)
        have c5 := hP.c6 HL.out 5 (by omega)
        have c6 := hP.c6 HL.out 6 (by omega)
        have c7 := hP.c6 HL.out 7 (by omega)
        have ck := hP.c5 k hlt
        have cw := hP.c4 k hlt
        have HS := Lib.hid (fun n => (hP.drewN n).step H46 H56 hb6)
        have hr8 := arr8_eight (rounds l m k) (rounds_length l m HL.out k)
        have HR := hP.h6
        rw [hr8] at HR
        clear hr8
        unfold rnd at HS
        generalize (rounds l m k).getD 0 0 = t0 at *
        generalize (rounds l m k).getD 1 0 = t1 at *
        generalize (rounds l m k).getD 2 0 = t2 at *
        generalize (rounds l m k).getD 3 0 = t3 at *
        generalize (rounds l m k).getD 4 0 = t4 at *
        generalize (rounds l m k).getD 5 0 = t5 at *
        generalize (rounds l m k).getD 6 0 = t6 at *
        generalize (rounds l m k).getD 7 0 = t7 at *
        generalize kc.getD k 0 = KK at *
        generalize (wl m 64).getD k 0 = WW at *
        clear hP
        go_wp2
        go_quiet (first
          | (go_at_call 89; exact Calls.quiet_of (turned_any _ 6 11 25 _ _ _ rfl rfl rfl (by decide) (by decide) (by decide) (by decide) (by decide) (by decide) _))
          | (go_at_call 89; exact Calls.quiet_of (turned_any _ 2 13 22 _ _ _ rfl rfl rfl (by decide) (by decide) (by decide) (by decide) (by decide) (by decide) _)))
        go_wp2
        obtain ⟨wq, hwq⟩ : ∃ x, x = wr.drewN nq := ⟨_, rfl⟩
        replace HS := Lib.hid (fun n => by have := HS.out (nq + n); rw [← World.drewN_drewN, ← hwq] at this; exact this)
        replace c0 : wq.cell? ⟨b6, 0, none⟩ = some (.int .u32 (V32 t0)) := by rw [hwq]; exact c0
        replace c1 : wq.cell? ⟨b6, 1, none⟩ = some (.int .u32 (V32 t1)) := by rw [hwq]; exact c1
        replace c2 : wq.cell? ⟨b6, 2, none⟩ = some (.int .u32 (V32 t2)) := by rw [hwq]; exact c2
        replace c3 : wq.cell? ⟨b6, 3, none⟩ = some (.int .u32 (V32 t3)) := by rw [hwq]; exact c3
        replace c4 : wq.cell? ⟨b6, 4, none⟩ = some (.int .u32 (V32 t4)) := by rw [hwq]; exact c4
        replace c5 : wq.cell? ⟨b6, 5, none⟩ = some (.int .u32 (V32 t5)) := by rw [hwq]; exact c5
        replace c6 : wq.cell? ⟨b6, 6, none⟩ = some (.int .u32 (V32 t6)) := by rw [hwq]; exact c6
        replace c7 : wq.cell? ⟨b6, 7, none⟩ = some (.int .u32 (V32 t7)) := by rw [hwq]; exact c7
        replace HR : wq.heap[b6]? = some (.cells #[.int .u32 (V32 t0), .int .u32 (V32 t1), .int .u32 (V32 t2), .int .u32 (V32 t3), .int .u32 (V32 t4), .int .u32 (V32 t5), .int .u32 (V32 t6), .int .u32 (V32 t7)] 74 (0, 0)) := by rw [hwq]; exact HR
        rw [← hwq]
        clear hwq ck cw
        have HRn := Lib.hid (fun n => show (wq.drewN n).heap[b6]? = _ from HR)
        go_quiet ((go_at_call 89; exact Calls.quiet_of (turned_any _ 2 13 22 _ _ _ rfl rfl rfl (by decide) (by decide) (by decide) (by decide) (by decide) (by decide) _)))
        go_wp2_with (first
          | (with_reducible refine wpL_build rfl 74 _ rfl (.agg (arr8 [t7 + sig3 t4 6 11 25 + (t4 &&& t5 ^^^ ~~~t4 &&& t6) + KK + WW + (sig3 t0 2 13 22 + (t0 &&& t1 ^^^ t0 &&& t2 ^^^ t1 &&& t2)), t0, t1, t2, t3 + (t7 + sig3 t4 6 11 25 + (t4 &&& t5 ^^^ ~~~t4 &&& t6) + KK + WW), t4, t5, t6])) (by kernel_rfl) ?_)
          | (with_reducible refine wpL_storeRow rfl 74 _ _ rfl b6 rfl (arr8 [t7 + sig3 t4 6 11 25 + (t4 &&& t5 ^^^ ~~~t4 &&& t6) + KK + WW + (sig3 t0 2 13 22 + (t0 &&& t1 ^^^ t0 &&& t2 ^^^ t1 &&& t2)), t0, t1, t2, t3 + (t7 + sig3 t4 6 11 25 + (t4 &&& t5 ^^^ ~~~t4 &&& t6) + KK + WW), t4, t5, t6]) rfl 74 _ (HRn.out _) (by kernel_rfl) (inf74 _ (by kernel_rfl)) (wv_one _) ?_))
        exact ⟨⟨k + 1, by omega, by go_num, HS.out _⟩, by simp [intOf]; omega⟩
      · obtain rfl : k = 64 := by omega
        clear hlt hk
        have hglt : g < w.heap.size := (Array.getElem?_eq_some_iff.1 HG.out).1
        have hne : b6 ≠ g := by omega
        have hF : Fin8 w g b6 l (rounds l m 64) 0 wr := ⟨by rw [mix_zero l _ HL.out]; exact lives_block _ _ _ _ HG.out hP.below, hP.h6, hP.below.os, hP.below.tape, hP.below.output, hP.below.size, fun k hk _ => hP.below.block k hk⟩
        have hT := Lib.hid (rounds_length l m HL.out 64)
        have hcomp : Hid (comp l m = mix l (rounds l m 64) 8) := (mix_end l _ HL.out hT.out).symm
        generalize rounds l m 64 = T at *
        clear hP
        go_wp2
        rw [show (((64 : Nat) : Int)) = 64 from rfl]
        go_loopw [10, 89] (fun _ i wr => ∃ k : Nat, k ≤ 8 ∧ i = .int .i64 k ∧ Fin8 w g b6 l T k wr) (fun _ i _ => (8 - intOf i).toNat)
        case atStart => exact ⟨0, by omega, rfl, hF⟩
        case round =>
          obtain ⟨k, hk, rfl, hP⟩ := hrel
          by_cases hlt : k < 8
          · have hlt' : (k : Int) < 8 := by omega
            have HS := Lib.hid (hP.step hlt hne).drew
            have cg := (cell_of_row wr g k _ _ _ hP.hg).trans (mix_at l T k hlt)
            have c6 := (cell_of_row wr b6 k _ _ _ hP.h6).trans (arr8_at T k (by rw [hT.out]; exact hlt))
            have fg := frozen_of_row wr g k _ 74 hP.hg
            generalize l.getD k 0 = lk at *
            generalize T.getD k 0 = tk at *
            clear hP hne hF
            go_wp2
            go_still_tail 11, (by kernel_rfl)
            go_wp2
            go_roundw
            case rel => exact ⟨k + 1, by omega, by go_num, HS.out⟩
            case measure => simp [intOf]; omega
          · obtain rfl : k = 8 := by omega
            have HF := Lib.hid hP
            clear hlt hk hP hF
            go_wp2
            go_end0
            exact ⟨rfl, by rw [hcomp.out]; exact HF.out.hg, HF.out.grown⟩
end Go.Proofs.Ytllnocffmlagjaa
