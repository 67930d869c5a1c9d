/- The walk's own steps for append, make and literals on byte slices and on slices of slices; contracts of slices.Clone and word.Put. Conditions: each theorem names its own. -/
import Derived.Test.YtllnocffmlagjaaA1
import Derived.Test.YtllnocffmlagjaaM0
set_option linter.unusedVariables false
namespace Go.Proofs.Ytllnocffmlagjaa
open Go.RowKit

theorem inf5 : (Try.prog.info? 5).map (fun i => (i.zero, i.size, i.bytes)) = some (some (.int .u8 0), 1, 1) := by kernel_rfl
theorem inf22 : (Try.prog.info? 22).map (fun i => (i.zero, i.size, i.bytes)) = some (some (.slice none 0 0), 1, 24) := by kernel_rfl
section
variable {P : Program} {ops : Array Oper} {rest : List Oper} {o : Oper} {a : Act} {Q : Exit → Act → World → Prop}
theorem own_shape {w : World} {base : Nat} {e : TypeId} {v : Value} {n : Nat} {xs : List Value} (h : w.ownsRow base e 1 v n xs) : ∃ A cap, v = .slice A n cap := by
  rcases h.2 with ⟨rfl, rfl⟩ | ⟨g, cap, cur, rfl, _⟩
  · exact ⟨none, 0, rfl⟩
  · exact ⟨_, cap, rfl⟩
theorem wpL_app (w : World) (hgd : o.guard = none) (s x : Operand) (t e : TypeId) (z : Value) (bytes : Nat)
    (ho : o.op = .call { callee := .builtin .append, args := #[s, x], argTypes := #[t, t] }) (ht : P.underlying t = some (.slice e))
    (hinfo : (P.info? e).map (fun i => (i.zero, i.size, i.bytes)) = some (some z, 1, bytes)) (hz : z.cells.size = 1) (hb0 : 0 < bytes)
    (base : Nat) (v : Value) (xs : List Value) (hs : a.eval s = v) (hown : w.ownsRow base e 1 v xs.length xs)
    (src : Value) (ys : List Value) (hx : a.eval x = src) (hsl : Sl w src ys) (h1 : ∀ u ∈ ys, u.oneCell' = true) (n : Nat) (hn : xs.length + ys.length = n)
    (hbytes : n * bytes ≤ 140737488355328) (hbase : base ≤ w.heap.size)
    (h : ∀ A cap w', w'.ownsRow base e 1 (.slice A n cap) n (xs ++ ys) → Below base w w' → w.grownBy w' v.ownBlock → ((Value.slice A n cap).ownBlock = v.ownBlock ∨ (Value.slice A n cap).ownBlock = some w.heap.size) → wpList P ops Q rest (a.put o.dst (.slice A n cap)) w') :
    wpList P ops Q (o :: rest) a w := by
  obtain ⟨v', w', hr, h2, h3, h4⟩ := run_app (P := P) w base t o.type e z bytes ht hinfo hz v xs hown src ys hsl h1 hb0 (by rw [hn]; exact hbytes) hbase
  rw [List.length_append, hn] at h2
  obtain ⟨A, cap, rfl⟩ := own_shape h2
  refine wpList_plain hgd fun K hK => ?_
  unfold Oper.wp execOp
  simp only [ho, resolve, invoke, builtin, Sem.run_bind, Sem.run_pure, Result.andThen_ok, List.map_toArray, List.map_cons, List.map_nil, hs, hx, hr]
  exact hK _ _ (h A cap w' h2 (below_grown h3 (own_base' hown) hbase) h3 h4)
theorem wpL_app0 (w : World) (hgd : o.guard = none) (s x : Operand) (t ti e : TypeId) (k : IntKind) (z : Value) (bytes : Nat)
    (ho : o.op = .call { callee := .builtin .append, args := #[s, x], argTypes := #[t, ti] }) (ht : P.underlying t = some (.slice e)) (hti : P.underlying ti = some (.int k))
    (hinfo : (P.info? e).map (fun i => (i.zero, i.size, i.bytes)) = some (some z, 1, bytes)) (hz : z.cells = #[z]) (hz1 : z.oneCell' = true) (hb0 : 0 < bytes)
    (base : Nat) (v : Value) (xs : List Value) (hs : a.eval s = v) (hown : w.ownsRow base e 1 v xs.length xs)
    (kx : IntKind) (im : Int) (m : Nat) (hm : im = m) (hx : a.eval x = .int kx im) (n : Nat) (hn : xs.length + m = n)
    (hbytes : n * bytes ≤ 140737488355328) (hbase : base ≤ w.heap.size)
    (h : ∀ A cap w', w'.ownsRow base e 1 (.slice A n cap) n (xs ++ List.replicate m z) → Below base w w' → w.grownBy w' v.ownBlock → ((Value.slice A n cap).ownBlock = v.ownBlock ∨ (Value.slice A n cap).ownBlock = some w.heap.size) → wpList P ops Q rest (a.put o.dst (.slice A n cap)) w') :
    wpList P ops Q (o :: rest) a w := by
  subst hm
  obtain ⟨v', w', hr, h2, h3, h4⟩ := run_app0 (P := P) w base t ti o.type e k z bytes ht hti hinfo hz hz1 v xs hown kx m hb0 (by rw [hn]; exact hbytes) hbase
  rw [List.length_append, List.length_replicate, hn] at h2
  obtain ⟨A, cap, rfl⟩ := own_shape h2
  refine wpList_plain hgd fun K hK => ?_
  unfold Oper.wp execOp
  simp only [ho, resolve, invoke, builtin, Sem.run_bind, Sem.run_pure, Result.andThen_ok, List.map_toArray, List.map_cons, List.map_nil, hs, hx, hr]
  exact hK _ _ (h A cap w' h2 (below_grown h3 (own_base' hown) hbase) h3 h4)
end

/-- A new row of cells, as a slice. -/
theorem Sl_new (w : World) (e : TypeId) (xs : List Value) (h : xs.length ≤ maxLen) : Sl (w.alloc (.cells xs.toArray e)) (.slice (some ⟨w.heap.size, 0, none⟩) xs.length xs.length) xs := by
  refine ⟨_, _, rfl, Nat.le_refl _, h, by simp, fun i hi => ⟨_, _, rfl, ?_⟩⟩
  rw [cell_of_row _ _ _ xs.toArray e (0, 0) (heap_alloc_new w _)]
  simp [hi, List.getD_eq_getElem?_getD]
theorem own_new (w : World) (base : Nat) (e : TypeId) (xs : List Value) (h : xs.length ≤ maxLen) (hb : base ≤ w.heap.size) :
    (w.alloc (.cells xs.toArray e)).ownsRow base e 1 (.slice (some ⟨w.heap.size, 0, none⟩) xs.length xs.length) xs.length xs :=
  ⟨by simp, .inr ⟨w.heap.size, xs.length, xs.toArray, rfl, hb, heap_alloc_new w _, Nat.le_refl _, h, by simp, by simp⟩⟩

set_option maxHeartbeats 400000 in
theorem clone_any (w : World) (v : Value) (bs : List UInt8) (hv : Sl w v (bv bs)) (hl : bs.length ≤ 140737488355328) :
    Calls Try.prog 78 #[v] w fun e w' => ∃ r, e = .returned r ∧ Below w.heap.size w w' ∧ w'.ownsRow w.heap.size 5 1 r bs.length (bv bs) := by
  obtain ⟨a, cap, rfl, h1, h2, h3, h4⟩ := hv.openB
  rcases a with _ | ad
  · have hc := h3 rfl
    subst hc
    obtain rfl : bs = [] := List.eq_nil_of_length_eq_zero (by omega)
    have heq := fun w' => Lib.run_eql_slice_nil (P := Try.prog) w' 22 5 none 0 0 0 0 Try.underlying22
    clear h1 h2 h3 h4 hl hv
    go_enter Try.func78, Try.ntmps78
    go_wp2
    go_ret
    exact ⟨_, rfl, Below.refl _ _, World.ownsRow_nil _ _ _ _⟩
  · have heq := fun w' => Lib.run_eql_slice_nil (P := Try.prog) w' 22 5 (some ad) bs.length cap 0 0 Try.underlying22
    have hr := own_new w w.heap.size 5 [] (by simp [maxLen]) (Nat.le_refl _)
    have hsl := hv.below (Below.alloc (Below.refl _ w) (Nat.le_refl _) (.cells #[] 5))
    clear h1 h2 h3 h4 hv
    go_enter Try.func78, Try.ntmps78
    go_wp2_with (at_builtin; refine wpL_app _ rfl _ _ 22 5 _ 1 rfl Try.underlying22 inf5 rfl (by decide) w.heap.size _ [] rfl hr _ _ rfl hsl (bv_one _) bs.length (by simp [bv_length]) (by omega) (by simp) ?_; intro A cap1 w1 hown hb1 _ _)
    go_ret
    exact ⟨_, rfl, (Below.alloc (Below.refl _ w) (Nat.le_refl _) (.cells #[] 5)).trans hb1, hown⟩

/-! ### a byte slice of the call's own, beside all that was there when the call began -/
def OB (w0 wr : World) (v : Value) (bs : List UInt8) : Prop := wr.ownsRow w0.heap.size 5 1 v bs.length (bv bs) ∧ Below w0.heap.size w0 wr
theorem OB.own {w0 wr : World} {v : Value} {bs : List UInt8} (h : OB w0 wr v bs) : wr.ownsRow w0.heap.size 5 1 v (bv bs).length (bv bs) := by
  rw [bv_length]; exact h.1
theorem OB.sl {w0 wr : World} {v : Value} {bs : List UInt8} (h : OB w0 wr v bs) : Sl wr v (bv bs) := Sl.of_own h.own
theorem OB.shape {w0 wr : World} {v : Value} {bs : List UInt8} (h : OB w0 wr v bs) : ∃ A cap, v = .slice A bs.length cap := own_shape h.1
theorem OB.nil {w0 wr : World} (h : Below w0.heap.size w0 wr) : OB w0 wr (.slice none 0 0) [] := ⟨World.ownsRow_nil _ _ _ _, h⟩
theorem OB.later {w0 wr w' : World} {v : Value} {bs : List UInt8} (h : OB w0 wr v bs) (hb : Below wr.heap.size wr w') : OB w0 w' v bs :=
  ⟨own_below h.1 hb, below_then h.2 h.2.size hb⟩
theorem OB.drewN {w0 wr : World} {v : Value} {bs : List UInt8} (h : OB w0 wr v bs) (n : Nat) : OB w0 (wr.drewN n) v bs := ⟨h.1, below_drewN h.2 n⟩
section
variable {ops : Array Oper} {rest : List Oper} {o : Oper} {a : Act} {Q : Exit → Act → World → Prop}
/-- append(out, y) -/
theorem wpL_push (w0 W : World) (hgd : o.guard = none) (s x : Operand)
    (ho : o.op = .call { callee := .builtin .append, args := #[s, x], argTypes := #[22, 22] })
    (v : Value) (bs : List UInt8) (hs : a.eval s = v) (hOB : OB w0 W v bs) (Y : Int) (y : UInt8) (hY : Y = V8 y) (hx : a.eval x = .slice (some ⟨W.heap.size, 0, none⟩) 1 1)
    (n : Nat) (hn : bs.length + 1 = n) (hb : n ≤ 140737488355328)
    (h : ∀ A cap w', OB w0 w' (.slice A n cap) (bs ++ [y]) → wpList Try.prog ops Q rest (a.put o.dst (.slice A n cap)) w') :
    wpList Try.prog ops Q (o :: rest) a (W.alloc (.cells #[.int .u8 Y] 5)) := by
  subst hY; subst hn
  have hal : Below W.heap.size W (W.alloc (.cells #[.int .u8 (V8 y)] 5)) := (Below.refl _ W).alloc (Nat.le_refl _) _
  refine wpL_app _ hgd s x 22 5 _ 1 ho Try.underlying22 inf5 rfl (by decide) w0.heap.size v (bv bs) hs (own_below hOB.own hal) _ _ hx
    (Sl_new W 5 [.int .u8 (V8 y)] (by simp [maxLen])) (by simp [Value.oneCell']) (bs.length + 1) (by simp [bv_length]) (by omega) (Nat.le_trans hOB.2.size hal.size) fun A cap w' h1 h2 _ _ => ?_
  refine h A cap w' ⟨?_, (below_then hOB.2 hOB.2.size hal).trans h2⟩
  have e : bv bs ++ [.int .u8 (V8 y)] = bv (bs ++ [y]) := by simp [bv]
  rw [e] at h1
  simpa using h1
/-- append(out, ys...), ys a byte slice that is read -/
theorem wpL_cat (w0 W : World) (hgd : o.guard = none) (s x : Operand)
    (ho : o.op = .call { callee := .builtin .append, args := #[s, x], argTypes := #[22, 22] })
    (v : Value) (bs : List UInt8) (hs : a.eval s = v) (hOB : OB w0 W v bs) (src : Value) (ys : List UInt8) (hx : a.eval x = src) (hsl : Sl W src (bv ys))
    (n : Nat) (hn : bs.length + ys.length = n) (hb : n ≤ 140737488355328)
    (h : ∀ A cap w', OB w0 w' (.slice A n cap) (bs ++ ys) → wpList Try.prog ops Q rest (a.put o.dst (.slice A n cap)) w') :
    wpList Try.prog ops Q (o :: rest) a W := by
  subst hn
  refine wpL_app _ hgd s x 22 5 _ 1 ho Try.underlying22 inf5 rfl (by decide) w0.heap.size v (bv bs) hs hOB.own _ _ hx
    hsl (bv_one _) (bs.length + ys.length) (by simp [bv_length]) (by omega) hOB.2.size fun A cap w' h1 h2 _ _ => ?_
  refine h A cap w' ⟨?_, hOB.2.trans h2⟩
  rw [← bv_append] at h1
  simpa using h1
/-- append(out, make([]byte, m)...) -/
theorem wpL_zeros (w0 W : World) (hgd : o.guard = none) (s x : Operand)
    (ho : o.op = .call { callee := .builtin .append, args := #[s, x], argTypes := #[22, 3] })
    (v : Value) (bs : List UInt8) (hs : a.eval s = v) (hOB : OB w0 W v bs) (im : Int) (m : Nat) (hm : im = m) (hx : a.eval x = .int .i64 im)
    (n : Nat) (hn : bs.length + m = n) (hb : n ≤ 140737488355328)
    (h : ∀ A cap w', OB w0 w' (.slice A n cap) (bs ++ List.replicate m 0) → wpList Try.prog ops Q rest (a.put o.dst (.slice A n cap)) w') :
    wpList Try.prog ops Q (o :: rest) a W := by
  subst hn
  refine wpL_app0 _ hgd s x 22 3 5 .i64 _ 1 ho Try.underlying22 Try.underlying3 inf5 rfl rfl (by decide) w0.heap.size v (bv bs) hs hOB.own .i64 im m hm hx (bs.length + m) (by simp [bv_length]) (by omega) hOB.2.size fun A cap w' h1 h2 _ _ => ?_
  refine h A cap w' ⟨?_, hOB.2.trans h2⟩
  have e : bv bs ++ List.replicate m (.int .u8 0) = bv (bs ++ List.replicate m 0) := by simp [bv, V8]
  rw [e] at h1
  simpa using h1
end
/-! ### a whole array in a block of its own -/
theorem run_storeRow {P : Program} (w : World) (g : Nat) (t ty : TypeId) (cur cs : Array Value) (hg : w.heap[g]? = some (.cells cur t (0, 0))) (hs : cs.size = cur.size)
    (hi : (P.info? ty).map (·.size) = some cs.size) (h1 : ∀ u ∈ cs.toList, u.oneCell' = true) :
    (storeVar ty ⟨g, 0, none⟩ (.agg cs)).run P w = .ok () (w.setRow g cs) := by
  have hst := run_storeCells_at P g 0 t cs.toList 0 cur w hg (by simp [hs]) h1
  cases hq : P.info? ty with
  | none => simp [hq] at hi
  | some i =>
    have hsz : i.size = cs.size := by simpa [hq] using hi
    have hd : cur.toList.drop cs.size = [] := List.drop_eq_nil_of_le (by simp [hs])
    simp [storeVar, sizeOf, typeInfo, hq, hsz, Value.cells, hst, hd]
theorem wpL_storeRow {P : Program} {ops : Array Oper} {rest : List Oper} {o : Oper} {a : Act} {w : World} {Q : Exit → Act → World → Prop} (hgd : o.guard = none) (ty : TypeId) (x y : Operand) (ho : o.op = .store ty x y)
    (g : Nat) (hx : a.eval x = .pointer (some ⟨g, 0, none⟩)) (cs : Array Value) (hy : a.eval y = .agg cs) (t : TypeId) (cur : Array Value) (hg : w.heap[g]? = some (.cells cur t (0, 0))) (hs : cs.size = cur.size)
    (hi : (P.info? ty).map (·.size) = some cs.size) (h1 : ∀ u ∈ cs.toList, u.oneCell' = true)
    (h : wpList P ops Q rest (a.put o.dst undef) (w.setRow g cs)) : wpList P ops Q (o :: rest) a w :=
  wpList_plain hgd fun _ hK => by
    unfold Oper.wp execOp
    simp only [ho, hx, hy, Instr.storeAt, Instr.sureAddr, Sem.run_bind, Sem.run_pure, Result.andThen_ok, run_storeRow w g t ty cur cs hg hs hi h1]
    exact hK _ _ h
theorem below_setRow {B : Nat} {w0 w : World} (h : Below B w0 w) {g : Nat} (hg : B ≤ g) (cs : Array Value) : Below B w0 (w.setRow g cs) :=
  h.trans ⟨rfl, rfl, rfl, by simp, fun k hk => setRow_other w g k _ (by omega)⟩
theorem clone_ob (w0 w : World) (h0 : Below w0.heap.size w0 w) (v : Value) (bs : List UInt8) (hv : Sl w v (bv bs)) (hl : bs.length ≤ 140737488355328) :
    Calls Try.prog 78 #[v] w fun e w' => ∃ r, e = .returned r ∧ Below w.heap.size w w' ∧ OB w0 w' r bs :=
  (clone_any w v bs hv hl).mono fun e w' ⟨r, he, hb, ho⟩ => ⟨r, he, hb, own_rebase ho h0.size, below_then h0 h0.size hb⟩
end Go.Proofs.Ytllnocffmlagjaa
