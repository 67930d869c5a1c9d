/- Contracts of tally.way and ref32.Way. Conditions: at most 20 items, each within 1000 bytes; the item is there. -/
import Derived.Test.YtllnocffmlagjaaT3
import Derived.Test.YtllnocffmlagjaaG2
set_option linter.unusedVariables false
namespace Go.Proofs.Ytllnocffmlagjaa
open Go.RowKit
attribute [local go_sem] flowAt flowUpon

def wayF : Nat → List (List UInt8) → Nat → List (List UInt8)
  | 0, _, _ => []
  | f + 1, ps, i => if ps.length < 2 then [] else if i < lf ps.length then wayF f (ps.take (lf ps.length)) i ++ [treeF f (ps.drop (lf ps.length))] else wayF f (ps.drop (lf ps.length)) (i - lf ps.length) ++ [treeF f (ps.take (lf ps.length))]
theorem wayF_len : ∀ f ps i, (wayF f ps i).length ≤ f
  | 0, _, _ => Nat.le_refl _
  | f + 1, ps, i => by
    unfold wayF
    split
    · simp
    · split
      · have := wayF_len f (ps.take (lf ps.length)) i; simp; omega
      · have := wayF_len f (ps.drop (lf ps.length)) (i - lf ps.length); simp; omega
/-- A row of byte slices of the call's own, each in an own row of bytes. -/
def OP (w0 wr : World) (v : Value) (pss : List (List UInt8)) : Prop :=
  ∃ vs, wr.ownsRow w0.heap.size 22 1 v vs.length vs ∧ vs.length = pss.length ∧ (∀ i, i < pss.length → OB w0 wr (vs.getD i undef) (pss.getD i [])) ∧ Below w0.heap.size w0 wr
theorem OP.below {w0 wr : World} {v : Value} {pss : List (List UInt8)} (h : OP w0 wr v pss) : Below w0.heap.size w0 wr := h.choose_spec.2.2.2
theorem OP.later {w0 wr w' : World} {v : Value} {pss : List (List UInt8)} (h : OP w0 wr v pss) (hb : Below wr.heap.size wr w') : OP w0 w' v pss := by
  obtain ⟨vs, h1, h2, h3, h4⟩ := h
  exact ⟨vs, own_below h1 hb, h2, fun i hi => (h3 i hi).later hb, below_then h4 h4.size hb⟩
theorem OP.parts {w0 wr : World} {v : Value} {pss : List (List UInt8)} (h : OP w0 wr v pss) : Parts wr v pss := by
  obtain ⟨vs, h1, h2, h3, h4⟩ := h
  exact ⟨vs, Sl.of_own h1, h2, fun i hi => (h3 i hi).sl⟩
theorem OP.nil (w : World) : OP w w (.slice none 0 0) [] := ⟨[], World.ownsRow_nil _ _ _ _, rfl, fun i hi => absurd hi (by simp), Below.refl _ _⟩
theorem OP.one {W0 W : World} {u : Value} {bs : List UInt8} (h : OB W0 W u bs) : OP W0 (W.alloc (.cells #[u] 22)) (.slice (some ⟨W.heap.size, 0, none⟩) 1 1) [bs] := by
  have hal : Below W.heap.size W (W.alloc (.cells #[u] 22)) := (Below.refl _ W).alloc (Nat.le_refl _) _
  refine ⟨[u], own_new W W0.heap.size 22 [u] (by simp [maxLen]) h.2.size, rfl, fun i hi => ?_, below_then h.2 h.2.size hal⟩
  have hi0 : i = 0 := by simpa using hi
  subst hi0
  exact h.later hal
theorem OP.from {w0 w wr : World} (hB : Below w0.heap.size w0 w) {v : Value} {pss : List (List UInt8)} (h : OP w wr v pss) : OP w0 wr v pss := by
  obtain ⟨vs, h1, h2, h3, h4⟩ := h
  have hb := below_then hB hB.size h4
  exact ⟨vs, own_rebase h1 hB.size, h2, fun i hi => ⟨own_rebase (h3 i hi).1 hB.size, hb⟩, hb⟩
theorem own_other {w : World} {b b' : Nat} {u v : Value} {n m : Nat} {xs ys : List Value} (h : w.ownsRow b 5 1 u n xs) (h' : w.ownsRow b' 22 1 v m ys) : u.ownBlock = none ∨ u.ownBlock ≠ v.ownBlock := by
  rcases h.2 with ⟨rfl, _⟩ | ⟨g, cap, cur, rfl, _, hg, _⟩
  · exact .inl rfl
  · refine .inr fun e => ?_
    rcases h'.2 with ⟨rfl, _⟩ | ⟨g', cap', cur', rfl, _, hg', _⟩
    · cases e
    · cases e; rw [hg] at hg'; cases hg'
theorem OP.shape {w0 wr : World} {v : Value} {pss : List (List UInt8)} (h : OP w0 wr v pss) : ∃ A cap, v = .slice A pss.length cap := by
  obtain ⟨vs, h1, h2, _⟩ := h
  rw [h2] at h1
  exact own_shape h1
theorem J.flow_appP {a : Act} {w W0 : World} {o : Oper} (s x : Operand) (ho : o.op = .call { callee := .builtin .append, args := #[s, x], argTypes := #[27, 27] })
    (v src : Value) (ps qs : List (List UInt8)) (hs : a.eval s = v) (hx : a.eval x = src) (hv : OP W0 w v ps) (hy : OP W0 w src qs) (hb : ps.length + qs.length ≤ 1000000) :
    J.flowAt (J.JB W0.heap.size true) Try.prog o a w (fun u w' => OP W0 w' u (ps ++ qs)) := by
  obtain ⟨vs, h1, h2, h3, h4⟩ := hv
  obtain ⟨us, k1, k2, k3, k4⟩ := hy
  have hone : ∀ y ∈ us, y.oneCell' = true := by
    intro y hy
    obtain ⟨i, hi, rfl⟩ := List.getElem_of_mem hy
    have := (k3 i (by omega)).sl.nocell
    rw [List.getD_eq_getElem?_getD, List.getElem?_eq_getElem hi] at this; exact this
  obtain ⟨v', w', hr, r2, r3, r4⟩ := run_app (P := Try.prog) w W0.heap.size 27 o.type 22 _ 24 Try.underlying27 inf22 rfl v vs h1 src us (Sl.of_own k1) hone (by decide) (by omega) h4.size
  unfold J.flowAt J.flowUpon execOp
  simp only [ho, resolve, invoke, builtin, Sem.run_bind, Sem.run_pure, Result.andThen_ok, List.map_toArray, List.map_cons, List.map_nil, hs, hx, hr]
  have hb' := below_grown r3 (own_base' h1) h4.size
  have hbb := h4.trans hb'
  have kept : ∀ u bs, OB W0 w u bs → OB W0 w' u bs := fun u bs hu => ⟨hu.1.kept r3 (own_other hu.1 h1), hbb⟩
  refine ⟨fun _ => hb', vs ++ us, r2, by simp [h2, k2], fun i hi => ?_, hbb⟩
  by_cases hlt : i < ps.length
  · have := kept _ _ (h3 i hlt)
    rw [List.getD_eq_getElem?_getD, List.getElem?_append_left (by omega), ← List.getD_eq_getElem?_getD, List.getD_eq_getElem?_getD (l := ps ++ qs), List.getElem?_append_left hlt, ← List.getD_eq_getElem?_getD]
    exact this
  · rw [List.length_append] at hi
    have := kept _ _ (k3 (i - ps.length) (by omega))
    rw [List.getD_eq_getElem?_getD, List.getElem?_append_right (by omega), h2, ← List.getD_eq_getElem?_getD, List.getD_eq_getElem?_getD (l := ps ++ qs), List.getElem?_append_right (by omega), ← List.getD_eq_getElem?_getD]
    exact this
theorem lives_op (w0 : World) (v : Value) (pss : List (List UInt8)) : Lives (fun w => OP w0 w v pss) := fun _ _ h hb => h.later hb
theorem ret_op {W w : World} (hB : Below W.heap.size W w) {f : FuncId} {args : Array Value} {pss : List (List UInt8)} (h : Calls Try.prog f args w fun e w' => ∃ r, e = .returned r ∧ OP w w' r pss) : Calls Try.prog f args w (RetIn w (fun u w' => OP W w' u pss)) :=
  h.mono fun e w' ⟨r, he, ho⟩ => ⟨r, he, ho.below, ho.from hB⟩
def Tw6 : J.Tab := ⟨fun k => if k = 4 then some 10 else if k = 8 then some 9 else if k = 9 then some 10 else none, fun k => k == 10, fun k => !(k == 4 || k == 8 || k == 9 || k == 10)⟩
def Tw7 : J.Tab := ⟨fun k => if k = 6 then some 12 else if k = 10 then some 11 else if k = 11 then some 12 else none, fun k => k == 12, fun k => !(k == 6 || k == 10 || k == 11 || k == 12)⟩

set_option maxRecDepth 100000 in
set_option maxHeartbeats 1000000 in
theorem way_any : ∀ (f : Nat) (w : World) (v : Value) (ps : List (List UInt8)) (i : Nat), ps.length ≤ f → Small ps → Parts w v ps → i < ps.length → f ≤ 20 →
    Calls Try.prog 73 #[v, .int .i64 i] w fun e w' => ∃ r, e = .returned r ∧ OP w w' r (wayF f ps i) := by
  intro f
  induction f with
  | zero =>
    intro w v ps i hf hs hp hi
    omega
  | succ f ih =>
    intro w v ps i hf hs hp hi hf20
    obtain ⟨a, cap, rfl, hc, hm, hne⟩ := hp.shape
    unfold wayF
    obtain ⟨b, o, rfl⟩ := hne (by omega)
    obtain ⟨n, hn⟩ : ∃ n, ps.length = n := ⟨_, rfl⟩
    rw [hn] at hc hf hne hp hi ⊢
    have hi' : (i : Int) < n := by omega
    by_cases h2 : n < 2
    · rw [if_pos h2]
      have h2' : (n : Int) < 2 := by omega
      have HO := Lib.hid (OP.nil w)
      clear ih hf hs hp hne hn h2 hi
      go_enter Try.func73, Try.ntmps73
      go_wp2
      go_ret
      exact ⟨_, rfl, HO.out⟩
    · rw [if_neg h2]
      obtain ⟨k, hk⟩ : ∃ k, lf n = k := ⟨_, rfl⟩
      rw [hk]
      have h20 : n ≤ 20 := by have := hs.1; omega
      obtain ⟨k1, kn, k16, _, _, _⟩ := lf_table n (by omega) (by omega)
      rw [hk] at k1 kn k16
      have hl := left_any w n (by omega) h20
      rw [hk] at hl
      have HN := Lib.hid hn
      have HF := Lib.hid hf
      have HS := Lib.hid hs
      have HIH := Lib.hid (fun w v ps i h1 h2 h3 h4 => ih w v ps i h1 h2 h3 h4 (by omega))
      have HP := Lib.hid hp
      have n2 : (2 : Int) ≤ n := by omega
      have kc : (k : Int) ≤ cap := by omega
      have kn' : (k : Int) ≤ n := by omega
      have knc : ¬ cap = k := by omega
      clear ih hs hp hne hf hn hk h2
      by_cases hik : i < k
      · rw [if_pos hik]
        have hik' : (i : Int) < k := by omega
        go_enter Try.func73, Try.ntmps73
        go_wp2_with (go_at_call 68; refine hl.mono ?_; rintro e w1 ⟨rfl, rfl⟩; clear hl)
        refine J.wp_flowC 11 (by kernel_rfl) (by kernel_rfl) Tw6 (by kernel_rfl) ?_
        simp only [List.take_succ_cons, List.take_zero, List.drop_succ_cons, List.drop_zero]
        iterate 2
          refine' J.flow_D0 rfl rfl (fun ν w2 hC hD => ?_) ?_; rotate_left
          · clear hC hD; go_simp; exact ⟨Below.refl _ _, rfl⟩
          simp only [Act.put, List.setIfInBounds_toArray, List.set_cons_zero, List.set_cons_succ]
        refine' J.flow_D0 (e := .slice (some ⟨b, o, none⟩) k cap) rfl rfl (fun ν w2 hC hD => ?_) ?_
        · clear hC hD; go_simp; exact ⟨Below.refl _ _, rfl⟩
        simp only [Act.put, List.setIfInBounds_toArray, List.set_cons_zero, List.set_cons_succ]
        iterate 1
          refine' J.flow_D0 rfl rfl (fun ν w2 hC hD => ?_) ?_; rotate_left
          · clear hC hD; go_simp; exact ⟨Below.refl _ _, rfl⟩
          simp only [Act.put, List.setIfInBounds_toArray, List.set_cons_zero, List.set_cons_succ]
        refine' J.flow_N0 (fun u w' => OP w1 w' u (wayF f (ps.take k) i)) (fun _ => lives_op _ _ _) rfl rfl rfl (fun ν w2 hC hD => ?_) ?_
        · have hs := ret_op hC (HIH.out w2 _ (ps.take k) i (by rw [List.length_take]; have := HF.out; have := HN.out; omega) (HS.out.take k) ((HP.out.below hC).take k (by omega)) (by rw [List.length_take]; have := HN.out; omega))
          clear hC hD; go_simp; exact Below.refl _ _
        simp only [Act.put, List.setIfInBounds_toArray, List.set_cons_zero, List.set_cons_succ]
        iterate 2
          refine' J.flow_D0 rfl rfl (fun ν w2 hC hD => ?_) ?_; rotate_left
          · clear hC hD; go_simp; exact ⟨Below.refl _ _, rfl⟩
          simp only [Act.put, List.setIfInBounds_toArray, List.set_cons_zero, List.set_cons_succ]
        refine' J.flow_D0 (e := .slice (some ⟨b, o + k, none⟩) (n - k) (cap - k)) rfl rfl (fun ν w2 hC hD => ?_) ?_
        · clear hC hD; go_simp; exact ⟨Below.refl _ _, rfl⟩
        simp only [Act.put, List.setIfInBounds_toArray, List.set_cons_zero, List.set_cons_succ]
        refine' J.flow_N0 (fun u w' => OB w1 w' u (treeF f (ps.drop k))) (fun _ => lives_ob _ _ _) rfl rfl rfl (fun ν w2 hC hD => ?_) ?_
        · have hs := ret_ob hC (tree_any f w2 _ (ps.drop k) (by rw [List.length_drop]; have := HF.out; have := HN.out; omega) (HS.out.drop k) ((HP.out.below hC).drop k (by omega)))
          clear hC hD; go_simp; exact Below.refl _ _
        simp only [Act.put, List.setIfInBounds_toArray, List.set_cons_zero, List.set_cons_succ]
        refine' J.flow_N0 (fun u w' => OP w1 w' u [treeF f (ps.drop k)]) (fun _ => lives_op _ _ _) rfl rfl rfl (fun ν w2 hC hD => ?_) ?_
        · have hq := hD.2 (by kernel_rfl)
          obtain ⟨A, cA, hA⟩ := hq.shape
          have ho := OP.one hq
          rw [hA] at ho
          clear hC hD hq; go_simp; exact (Below.refl _ _).alloc (Nat.le_refl _) _
        simp only [Act.put, List.setIfInBounds_toArray, List.set_cons_zero, List.set_cons_succ]
        refine' J.flow_S0 (fun u w' => OP w1 w' u (wayF f (ps.take k) i ++ [treeF f (ps.drop k)])) (fun _ => lives_op _ _ _) rfl rfl rfl (fun ν w2 hC hD => ?_) ?_
        · exact J.flow_appP (W0 := w1) (w := w2) (.tmp 20) (.tmp 25) rfl _ _ _ _ rfl rfl (hD.1.1.2 (by kernel_rfl)) (hD.2 (by kernel_rfl)) (by have := wayF_len f (ps.take k) i; have := HF.out; simp; omega)
        simp only [Act.put, List.setIfInBounds_toArray, List.set_cons_zero, List.set_cons_succ]
        refine J.flow_nil ?_
        intro ν w2 hC hG
        have hO := hG.2 rfl
        clear hC hG
        go_wp2
        go_ret
        exact ⟨_, rfl, hO⟩
      · rw [if_neg hik]
        have hik' : ¬ ((i : Int) < k) := by omega
        obtain ⟨d, hd⟩ : ∃ d, i - k = d := ⟨_, rfl⟩
        have hdi : (i : Int) - k = d := by omega
        rw [hd]
        have HDW := Lib.hid (IntWalk.i64_in (d : Int) (by omega))
        go_enter Try.func73, Try.ntmps73
        go_wp2_with (go_at_call 68; refine hl.mono ?_; rintro e w1 ⟨rfl, rfl⟩; clear hl)
        refine J.wp_flowC 13 (by kernel_rfl) (by kernel_rfl) Tw7 (by kernel_rfl) ?_
        simp only [List.take_succ_cons, List.take_zero, List.drop_succ_cons, List.drop_zero]
        iterate 2
          refine' J.flow_D0 rfl rfl (fun ν w2 hC hD => ?_) ?_; rotate_left
          · clear hC hD; go_simp; exact ⟨Below.refl _ _, rfl⟩
          simp only [Act.put, List.setIfInBounds_toArray, List.set_cons_zero, List.set_cons_succ]
        refine' J.flow_D0 (e := .slice (some ⟨b, o + k, none⟩) (n - k) (cap - k)) rfl rfl (fun ν w2 hC hD => ?_) ?_
        · clear hC hD; go_simp; exact ⟨Below.refl _ _, rfl⟩
        simp only [Act.put, List.setIfInBounds_toArray, List.set_cons_zero, List.set_cons_succ]
        iterate 2
          refine' J.flow_D0 rfl rfl (fun ν w2 hC hD => ?_) ?_; rotate_left
          · clear hC hD; go_simp; exact ⟨Below.refl _ _, rfl⟩
          simp only [Act.put, List.setIfInBounds_toArray, List.set_cons_zero, List.set_cons_succ]
        refine' J.flow_D0 (e := .int .i64 d) rfl rfl (fun ν w2 hC hD => ?_) ?_
        · clear hC hD; go_simp; exact ⟨Below.refl _ _, congrArg (Value.int IntKind.i64) HDW.out⟩
        simp only [Act.put, List.setIfInBounds_toArray, List.set_cons_zero, List.set_cons_succ]
        refine' J.flow_N0 (fun u w' => OP w1 w' u (wayF f (ps.drop k) d)) (fun _ => lives_op _ _ _) rfl rfl rfl (fun ν w2 hC hD => ?_) ?_
        · have hs := ret_op hC (HIH.out w2 _ (ps.drop k) d (by rw [List.length_drop]; have := HF.out; have := HN.out; omega) (HS.out.drop k) ((HP.out.below hC).drop k (by omega)) (by rw [List.length_drop]; have := HN.out; omega))
          clear hC hD; go_simp; exact Below.refl _ _
        simp only [Act.put, List.setIfInBounds_toArray, List.set_cons_zero, List.set_cons_succ]
        iterate 2
          refine' J.flow_D0 rfl rfl (fun ν w2 hC hD => ?_) ?_; rotate_left
          · clear hC hD; go_simp; exact ⟨Below.refl _ _, rfl⟩
          simp only [Act.put, List.setIfInBounds_toArray, List.set_cons_zero, List.set_cons_succ]
        refine' J.flow_D0 (e := .slice (some ⟨b, o, none⟩) k cap) rfl rfl (fun ν w2 hC hD => ?_) ?_
        · clear hC hD; go_simp; exact ⟨Below.refl _ _, rfl⟩
        simp only [Act.put, List.setIfInBounds_toArray, List.set_cons_zero, List.set_cons_succ]
        refine' J.flow_N0 (fun u w' => OB w1 w' u (treeF f (ps.take k))) (fun _ => lives_ob _ _ _) rfl rfl rfl (fun ν w2 hC hD => ?_) ?_
        · have hs := ret_ob hC (tree_any f w2 _ (ps.take k) (by rw [List.length_take]; have := HF.out; have := HN.out; omega) (HS.out.take k) ((HP.out.below hC).take k (by omega)))
          clear hC hD; go_simp; exact Below.refl _ _
        simp only [Act.put, List.setIfInBounds_toArray, List.set_cons_zero, List.set_cons_succ]
        refine' J.flow_N0 (fun u w' => OP w1 w' u [treeF f (ps.take k)]) (fun _ => lives_op _ _ _) rfl rfl rfl (fun ν w2 hC hD => ?_) ?_
        · have hq := hD.2 (by kernel_rfl)
          obtain ⟨A, cA, hA⟩ := hq.shape
          have ho := OP.one hq
          rw [hA] at ho
          clear hC hD hq; go_simp; exact (Below.refl _ _).alloc (Nat.le_refl _) _
        simp only [Act.put, List.setIfInBounds_toArray, List.set_cons_zero, List.set_cons_succ]
        refine' J.flow_S0 (fun u w' => OP w1 w' u (wayF f (ps.drop k) d ++ [treeF f (ps.take k)])) (fun _ => lives_op _ _ _) rfl rfl rfl (fun ν w2 hC hD => ?_) ?_
        · exact J.flow_appP (W0 := w1) (w := w2) (.tmp 33) (.tmp 38) rfl _ _ _ _ rfl rfl (hD.1.1.2 (by kernel_rfl)) (hD.2 (by kernel_rfl)) (by have := wayF_len f (ps.drop k) d; have := HF.out; simp; omega)
        simp only [Act.put, List.setIfInBounds_toArray, List.set_cons_zero, List.set_cons_succ]
        refine J.flow_nil ?_
        intro ν w2 hC hG
        have hO := hG.2 rfl
        clear hC hG
        go_wp2
        go_ret
        exact ⟨_, rfl, hO⟩
end Go.Proofs.Ytllnocffmlagjaa
