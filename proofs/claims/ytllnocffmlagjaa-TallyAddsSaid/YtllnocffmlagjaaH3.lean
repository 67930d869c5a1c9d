/- Contract of hash.Sum. Conditions: the parts' bytes within the machine's reach. -/
import Derived.Test.YtllnocffmlagjaaC1
import Derived.Test.YtllnocffmlagjaaH2
set_option linter.unusedVariables false
namespace Go.Proofs.Ytllnocffmlagjaa
open Go.RowKit Go.Shelf
attribute [local go_sem] Oper.semAt_some

/-- the message, filled up -/
def pads (bs : List UInt8) : List UInt8 := (bs ++ [128]) ++ List.replicate ((120 - (bs.length + 1) % 64) % 64) 0
def padd (bs : List UInt8) : List UInt8 := pads bs ++ be8 (UInt64.ofNat (8 * bs.length))
def chunk (m : List UInt8) (j : Nat) : List UInt8 := (m.drop (64 * j)).take 64
def shaN (m : List UInt8) (k : Nat) : List UInt32 := (List.range k).foldl (fun h j => comp h (chunk m j)) hc
def sha (bs : List UInt8) : List UInt8 := (shaN (padd bs) ((padd bs).length / 64)).flatMap be4

theorem pads_length (bs : List UInt8) : (pads bs).length % 64 = 56 := by
  simp [pads]; omega
theorem pads_le (bs : List UInt8) : (pads bs).length ≤ bs.length + 64 := by
  simp [pads]; omega
theorem padd_length (bs : List UInt8) : (padd bs).length = (pads bs).length + 8 := by simp [padd, be8]

theorem comp_length (l : List UInt32) (m : List UInt8) (h : l.length = 8) : (comp l m).length = 8 := by
  unfold comp; rw [List.length_zipWith, rounds_length l m h]; omega
/-- the state behind the pieces pre -/
def stateOf (m : List UInt8) {q : Nat} (pre : List (Fin q)) : List UInt32 := pre.foldl (fun h j => comp h (chunk m j.val)) hc
theorem stateOf_length (m : List UInt8) {q : Nat} (pre : List (Fin q)) : (stateOf m pre).length = 8 := by
  have : ∀ (xs : List (Fin q)) (h : List UInt32), h.length = 8 → (xs.foldl (fun h j => comp h (chunk m j.val)) h).length = 8 := by
    intro xs
    induction xs with
    | nil => intro h hh; exact hh
    | cons x xs ih => intro h hh; exact ih _ (comp_length _ _ hh)
  exact this pre hc rfl
theorem stateOf_snoc (m : List UInt8) {q : Nat} (pre : List (Fin q)) (x : Fin q) : stateOf m (pre ++ [x]) = comp (stateOf m pre) (chunk m x.val) := by
  simp [stateOf]
theorem stateOf_all (m : List UInt8) (q : Nat) : stateOf m (List.finRange q) = shaN m q := by
  unfold stateOf shaN; rw [← finRange_vals, List.foldl_map]
theorem chunk_len (m : List UInt8) (q x : Nat) (h : m.length = 64 * q) (hx : x < q) : (chunk m x).length = 64 := by
  simp [chunk]; omega
theorem chunk_get (m : List UInt8) (x i : Nat) (hi : i < 64) : (chunk m x).getD i 0 = m.getD (64 * x + i) 0 := by
  rw [chunk, List.getD_eq_getElem?_getD, List.getElem?_take, if_pos hi, List.getElem?_drop, ← List.getD_eq_getElem?_getD]
theorem flat_snoc (T : List UInt32) (k : Nat) (h : k < T.length) : (T.take (k + 1)).flatMap be4 = (T.take k).flatMap be4 ++ be4 (T.getD k 0) := by
  rw [List.take_succ_eq_append_getElem h, List.flatMap_append, List.getD_eq_getElem?_getD, List.getElem?_eq_getElem h]; simp
theorem flat_len (T : List UInt32) (k : Nat) : ((T.take k).flatMap be4).length ≤ 4 * k := by
  have : ∀ l : List UInt32, (l.flatMap be4).length = 4 * l.length := by
    intro l
    induction l with
    | nil => rfl
    | cons x l ih => rw [List.flatMap_cons, List.length_append, ih]; simp [be4]; omega
  rw [this, List.length_take]; omega
theorem run_index74 (w : World) (cs : Array Value) (k : Nat) (v : Value) (h : cs[k]? = some v) (hk : k < 8) : (Instr.index 74 (.agg cs) (.int .i64 k)).run Try.prog w = .ok v w := by
  have h0 : ¬ 8 ≤ k := by omega
  simp [Instr.index, run_underlying Try.underlying74, asIntOf, h0, go_sem, part, h]
/-- The cells of a message: so its pieces read. -/
theorem chunk_sl (W : World) (b o : Nat) (m : List UInt8) (q : Nat) (h : m.length = 64 * q) (hc : ∀ i, i < 64 * q → W.cell? ⟨b, o + i, none⟩ = some (.int .u8 (V8 (m.getD i 0)))) (x : Nat) (hx : x < q) :
    Sl W (.slice (some ⟨b, o + 64 * x, none⟩) 64 64) (bv (chunk m x)) := by
  have hl := chunk_len m q x h hx
  refine ⟨some ⟨b, o + 64 * x, none⟩, 64, by rw [bv_length, hl], by rw [bv_length, hl]; omega, by simp [maxLen], nofun, fun i hi => ⟨b, o + 64 * x, rfl, ?_⟩⟩
  rw [bv_length, hl] at hi
  rw [Nat.add_assoc, hc _ (by omega), bv_getD _ _ (by omega), chunk_get m x i hi]
/-- What the loop of hash.Sum keeps. -/
def SI (w : World) (g b o q : Nat) (m : List UInt8) (pre : List (Fin q)) (W : World) : Prop :=
  W.heap[g]? = some (.cells (arr8 (stateOf m pre)) 74 (0, 0)) ∧ (∀ i, i < 64 * q → W.cell? ⟨b, o + i, none⟩ = some (.int .u8 (V8 (m.getD i 0)))) ∧ Below w.heap.size w W ∧ g + 3 ≤ W.heap.size
theorem SI.from (w : World) (g b o q B : Nat) (m : List UInt8) (hB : w.heap.size ≤ B) : OwnFrom B (SI w g b o q m) := by
  intro pre A C row hs hg hr
  have hr' : ∀ r, row = some r → ∃ o : Obj, A.heap[r]? = some o ∧ o.isCells = false := fun r e => (hr r e).2
  exact ⟨(grownBy_keeps_cells hg hr' hs.1 rfl).trans hs.1, fun i hi => cell_kept (hs.2.1 i hi) hg hr', hs.2.2.1.grown hg hs.2.2.1.size (fun k e => Nat.le_trans hB (hr k e).1), Nat.le_trans hs.2.2.2 hg.size⟩

set_option maxRecDepth 100000 in
set_option maxHeartbeats 2000000 in
theorem sum_any (w : World) (v : Value) (pss : List (List UInt8)) (hv : Parts w v pss) (hl : pss.flatten.length ≤ 140737488354000) (hn : pss.length ≤ 140737488355000) :
    Calls Try.prog 13 #[v] w fun e w' => ∃ r, e = .returned r ∧ OB w w' r (sha pss.flatten) := by
  have hcat := concat_any w v pss hv (by omega) hn
  obtain ⟨a0, cap0, rfl, _⟩ := hv.opened
  generalize pss.length = n0 at *
  generalize pss.flatten = bs at *
  obtain ⟨n, hn'⟩ : ∃ n, bs.length = n := ⟨_, rfl⟩
  have hnl : n ≤ 140737488354000 := by omega
  obtain ⟨z, hz⟩ : ∃ z, z = (120 - (n + 1) % 64) % 64 := ⟨_, rfl⟩
  have hzi : (120 - ((n : Int) + 1)) % 64 = (z : Int) := by omega
  have hz64 : z < 64 := by omega
  have hP : Hid (bs ++ [128] ++ List.replicate z 0 = pads bs) := by rw [Hid, pads, hn', hz]
  have hPl : Hid ((bs ++ [128] ++ List.replicate z 0).length = n + 1 + z) := by rw [Hid]; simp [hn']; omega
  obtain ⟨x, hx⟩ : ∃ x, x = UInt64.ofNat (8 * bs.length) := ⟨_, rfl⟩
  have hxv : Hid ((n : Int) * 8 = V64 x) := by
    rw [Hid, hx, hn']; unfold V64; rw [UInt64.toNat_ofNat']; omega
  have hM : Hid (pads bs ++ be8 x = padd bs) := by rw [Hid, padd, hx]
  have hq : ∃ q, n + 1 + z + 8 = 64 * q := ⟨(n + 1 + z + 8) / 64, by omega⟩
  obtain ⟨q, hq⟩ := hq
  have hML : Hid ((padd bs).length = 64 * q) := by rw [Hid, ← hM.out, List.length_append, ← hP.out, hPl.out, ← hq]; rfl
  have HQ := Lib.hid hq
  clear hv hl hn hz hx hq
  refine (callsIn_wide (n := 3)).1 ?_
  refine callsIn_of_wp_marks Try.func13 rfl trivial ?_ rfl
  simp only [Try.ntmps13, List.size_toArray, List.length_cons, List.length_nil, Nat.reduceAdd, Nat.reduceSub, Array.replicate_succ, Array.replicate_zero, List.push_toArray, List.append_toArray, List.nil_append, List.cons_append]
  refine wpIn_wide.2 ?_
  go_wp2_with (first
    | (go_at_call 49; refine hcat.mono ?_; rintro e w1 ⟨r1, rfl, hO1⟩; obtain ⟨A1, c1, rfl⟩ := hO1.shape; rw [hn'])
    | (at_builtin; refine wpL_push w _ rfl _ _ rfl _ _ rfl (by rw [← hn'] at *; exact hO1) _ 128 rfl rfl (n + 1) (by rw [hn']) (by omega) ?_; intro A2 c2 w2 hO2)
    | (at_builtin; refine wpL_zeros w _ rfl _ _ rfl _ _ rfl hO2 _ z (by omega) rfl (n + 1 + z) (by simp [hn']) (by omega) ?_; intro A3 c3 w3 hO3)
    | (go_at_call 50; refine (put64_any w3 _ _ x _ hxv.out hO3.sl (by rw [hPl.out]; omega)).mono ?_; rintro e w4 ⟨r4, rfl, hO4⟩; rw [hP.out, hM.out] at hO4; obtain ⟨A4, c4, rfl⟩ := hO4.shape; rw [hML.out])
    | (go_at_call 51; refine (first_any _).mono ?_; rintro e w5 ⟨rfl, hB5⟩)
    | (with_reducible refine wpL_storeRow rfl 74 _ _ rfl w5.heap.size rfl (arr8 hc) rfl 74 _ (heap_alloc_new w5 _) (by kernel_rfl) (inf74 _ (by kernel_rfl)) (wv_one _) ?_)
    | (go_at_call 52; refine (chunk_any _ _ _ _).mono ?_; rintro e w6 ⟨rfl, rfl⟩))
  have hS7 := hO4.sl
  have hB4 := hO3.2.trans (hO4.2.mono hO3.2.size)
  have H5 := below_then hB4 hB4.size hB5
  obtain ⟨W6, hW6⟩ : ∃ W, W = (w5.alloc (.cells #[.int .u32 0, .int .u32 0, .int .u32 0, .int .u32 0, .int .u32 0, .int .u32 0, .int .u32 0, .int .u32 0] 74)).setRow w5.heap.size (arr8 hc) := ⟨_, rfl⟩
  obtain ⟨W7, hW7⟩ : ∃ W, W = (W6.alloc (.cells #[.slice A4 (64 * q) c4] 22)).alloc (.cells #[.int .i64 64] 3) := ⟨_, rfl⟩
  rw [← hW6, ← hW7]
  have s6 : W6.heap.size = w5.heap.size + 1 := by rw [hW6]; simp
  have s7 : W7.heap.size = w5.heap.size + 3 := by rw [hW7]; simp [s6]
  have B56 : Below w5.heap.size w5 W6 := by rw [hW6]; exact below_setRow ((Below.refl _ w5).alloc (Nat.le_refl _) _) (Nat.le_refl _) _
  have B67 : Below W6.heap.size W6 W7 := by rw [hW7]; exact ((Below.refl _ W6).alloc (Nat.le_refl _) _).alloc (by simp) _
  have g6 : W6.heap[w5.heap.size]? = some (.cells (arr8 hc) 74 (0, 0)) := by
    rw [hW6]; exact setRow_heap _ _ _ _ _ _ (heap_alloc_new w5 _)
  have g7 : W7.heap[w5.heap.size]? = some (.cells (arr8 hc) 74 (0, 0)) := (B67.block _ (by omega)).trans g6
  have b7 : W7.heap[w5.heap.size + 1]? = some (.cells #[.slice A4 (64 * q) c4] 22 (0, 0)) := by
    rw [hW7, ← s6]; exact (Below.heap_alloc _ _ _ (by simp)).trans (heap_alloc_new W6 _)
  have n7 : W7.heap[w5.heap.size + 1 + 1]? = some (.cells #[.int .i64 64] 3 (0, 0)) := by
    rw [hW7, ← s6]; have := heap_alloc_new (W6.alloc (.cells #[.slice A4 (64 * q) c4] 22)) (.cells #[.int .i64 64] 3); rw [World.size_alloc] at this; exact this
  have H7 : Below w.heap.size w W7 := below_then (below_then H5 H5.size B56) (below_then H5 H5.size B56).size B67
  have hq0 : 0 < q := by have := HQ.out; omega
  have B57 : Below w5.heap.size w5 W7 := below_then B56 (by omega) B67
  obtain ⟨ad, cap', he, hcap', hmax', _, hrd⟩ := (hS7.below hB5)
  rw [bv_length, hML.out] at he hcap'
  obtain ⟨rfl, rfl⟩ : A4 = ad ∧ c4 = cap' := by cases he; exact ⟨rfl, rfl⟩
  obtain ⟨b, o, rfl, hcb⟩ := hrd.byte 0 (by rw [hML.out]; omega)
  have hbg := World.block_lt_of_cell? w5 _ hcb
  have hmsg : ∀ i, i < 64 * q → W7.cell? ⟨b, o + i, none⟩ = some (.int .u8 (V8 ((padd bs).getD i 0))) := fun i hi => by
    obtain ⟨b', o', e, h⟩ := hrd.byte i (by rw [hML.out]; omega)
    cases e
    exact (B57.cell (World.block_lt_of_cell? w5 _ h)).trans h
  have hmax : c4 ≤ 9223372036854775807 := hmax'
  have hwg : w.heap.size ≤ w5.heap.size := H5.size
  clear hrd hcb he hmax' B57 B56 B67 g6 hW6 hW7 H5 hB4 hS7 hB5 hO4 hO3 hO2 hO1
  generalize w5.heap.size = g at *
  refine (wpIn_wide (n := 3)).1 ?_
  refine wpIn_rangeFunc_ownG rfl (by decide) (gf := 86) (lb := #[.pointer (some ⟨g + 1, 0, none⟩), .pointer (some ⟨g + 1 + 1, 0, none⟩)]) rfl trivial (enters_of Try.func86 (by kernel_rfl) rfl)
    (chunk_stops 2 (g + 1) (g + 1 + 1) b o (64 * q) c4 q (by decide) rfl hcap' hmax (by have := HQ.out; omega) W7 (by omega) (by omega) b7 n7) (fun h k => h.trans k)
    (fun W l x x' h1 h2 h3 h4 => ⟨(belowK_b (w := W7) (Nat.le_refl _) W l x x' h1 h2 h3 h4).block _ (by omega), (belowK_b (w := W7) (Nat.le_refl _) W l x x' h1 h2 h3 h4).block _ (by omega)⟩)
    (Below.refl _ _) (fun _ => rfl) (SI w g b o q (padd bs)) (fun _ _ _ => False) (SI.from w g b o q _ _ H7.size) (fun _ _ _ _ _ hs _ _ => hs) ⟨g7, hmsg, H7, by omega⟩
    (fun x => { tmps := #[.slice a0 n0 cap0, undef, .slice none 0 0, .slice (some ⟨b, o, none⟩) (64 * q) c4, .int .i64 n,
          .pointer (some ⟨g, 0, none⟩), .slice (some ⟨b, o + 64 * x.val, none⟩) 64 64, undef, undef, undef, .slice a0 n0 cap0,
          .slice A1 n c1, .slice A1 n c1, .int .i64 n, .slice A1 n c1,
          .slice (some ⟨w1.heap.size, 0, none⟩) 1 1, .slice A2 (n + 1) c2,
          .slice A2 (n + 1) c2, .slice A2 (n + 1) c2, .int .i64 (n + 1),
          .int .i64 ((n + 1) % 64), .int .i64 (120 - (n + 1) % 64), .int .i64 z,
          .slice A3 (n + 1 + z) c3, .slice A3 (n + 1 + z) c3, .int .i64 n,
          .int .u64 n, .int .u64 (n * 8), .slice (some ⟨b, o, none⟩) (64 * q) c4, .agg (arr8 hc),
          .slice (some ⟨b, o, none⟩) (64 * q) c4,
          .func (.func 86) #[] #[.pointer (some ⟨g + 1, 0, none⟩), .pointer (some ⟨g + 1 + 1, 0, none⟩)],
          .slice (some ⟨b, o + 64 * x.val, none⟩) 64 64, undef, undef, undef, undef, undef, undef, undef, undef, undef, undef, undef], defers := [] }) ?assign ?body ?done ?stop
  case assign =>
    intro l x W K hK
    gi_wp2
    exact hK
  case body =>
    rintro l pre x W ⟨hg, hm, hB, hsz⟩ _
    gi_wp2_with (refine ⟨trivial, ?_⟩; gi_at_call 53; refine (CallsIn.inRound l (callsIn_wide.2 (block_any _ g _ (chunk (padd bs) x.val) _ (stateOf_length _ _) hg (chunk_sl _ b o _ q hML.out hm _ x.isLt) (chunk_len _ q _ hML.out x.isLt)))).mono ?_; rintro e W9 ⟨rfl, hg9, hgr⟩)
    exact ⟨KeepsFrom.of_grownBy hgr (fun j e => by cases e; omega), ⟨hgr.block _ (by omega) (by simp), hgr.block _ (by omega) (by simp; omega)⟩, by rw [stateOf_snoc]; exact hg9, fun i hi => ((World.cell?_of_block (a := ⟨b, o + i, none⟩) (hgr.block b (World.block_lt_of_cell? W _ (hm i hi)) (by simp; omega))).trans (hm i hi)), hB.grown hgr hB.size (fun k e => by cases e; exact hwg), Nat.le_trans hsz hgr.size⟩
  case done =>
    rintro D ys W hD rfl ⟨hg, hm, hB, hsz⟩ hK
    have hT8 := stateOf_length (padd bs) (List.finRange q)
    rw [stateOf_all] at hg hT8
    have HT : Hid ((shaN (padd bs) q).flatMap be4 = sha bs) := by rw [Hid, sha, hML.out, Nat.mul_div_cancel_left _ (by decide)]
    generalize shaN (padd bs) q = T at *
    have HI := inf74 (arr8 T).size (by simp [arr8, wv, hT8])
    go_wp2_with (with_reducible refine wpList_load_row rfl 74 _ rfl g rfl 74 (arr8 T) (0, 0) _ hg Try.underlying74 rfl HI ?_)
    have hDlt : D < W.heap.size := (Array.getElem?_eq_some_iff.1 hK).1
    have hsz8 : (arr8 T).size = 8 := by simp [arr8, wv, hT8]
    have HA := Lib.hid (fun k (h : k < 8) => arr8_at T k (by rw [hT8]; exact h))
    have HS := Lib.hid (fun k (h : k < 8) => flat_snoc T k (by rw [hT8]; exact h))
    have HTk := Lib.hid (List.take_of_length_le (l := T) (i := 8) (by omega))
    have HL := Lib.hid (fun k => flat_len T k)
    clear HI hT8 hg hm hsz
    generalize arr8 T = AT at *
    go_loopw [7, 9, 36] (fun out _ i wr => ∃ (k : Nat) (cs : List UInt8), k ≤ 8 ∧ Hid (cs = (T.take k).flatMap be4) ∧ i = .int .i64 k ∧ OB w wr out cs ∧ wr.heap[D]? = some (.deferred (some [])) ∧ D < wr.heap.size) (fun _ _ i _ => (8 - intOf i).toNat)
    case atStart => exact ⟨0, [], by omega, rfl, rfl, ⟨World.ownsRow_nil _ _ _ _, hB⟩, hK, hDlt⟩
    case round =>
      obtain ⟨k, cs, hk, hcs, rfl, hOB, hD2, hD3⟩ := hrel
      by_cases hlt : k < 8
      · have hlt' : (k : Int) < 8 := by omega
        have hix := run_index74 wr AT k _ (HA.out k hlt) hlt
        have hcl : cs.length ≤ 1000 := by rw [hcs.out]; have := HL.out k; omega
        have hst : Hid (cs ++ be4 (T.getD k 0) = (T.take (k + 1)).flatMap be4) := by rw [Hid, HS.out k hlt, hcs.out]
        generalize T.getD k 0 = tk at *
        go_wp2_with (go_at_call 54; refine (put32_any wr _ cs tk hOB.sl (by omega)).mono ?_; rintro e w9 ⟨r9, rfl, hO9⟩)
        go_roundw
        case rel => exact ⟨k + 1, _, by omega, hst, by go_num, ⟨own_rebase hO9.1 hOB.2.size, below_then hOB.2 hOB.2.size hO9.2⟩, (hO9.2.block D hD3).trans hD2, Nat.lt_of_lt_of_le hD3 hO9.2.size⟩
        case measure => simp [intOf]; omega
      · obtain rfl : k = 8 := by omega
        rw [hcs.out, HTk.out, HT.out] at hOB
        clear hlt hk
        go_wp2
        refine ⟨by simp, .inl ⟨_, _, rfl, run_takeDeferred hD2, ?_⟩⟩
        have hDw : w.heap.size ≤ D := by have := H7.size; omega
        have hne : ∀ j, ∀ v : Value, ∀ n' : Nat, ∀ xs : List Value, wr.ownsRow w.heap.size 5 1 v n' xs → v.ownBlock = some j → j ≠ D := by
          intro j v n' xs h1 h2 h3
          rcases h1.2 with ⟨rfl, _⟩ | ⟨g', cap', cur, rfl, _, hg', _⟩
          · cases h2
          · cases h2; dsimp only at h3; rw [h3, hD2] at hg'; cases hg'
        refine ⟨_, results_tmp rfl _ _ _, _, rfl, ?_, ?_⟩
        · refine hOB.1.kept (row := some D) (grownBy_putObj' _ D _) ?_
          exact .inr (fun e => hne D _ _ _ hOB.1 e rfl)
        · exact hOB.2.trans (belowK_b (w := w) (Nat.le_refl _) wr D _ _ hDw hD2 rfl rfl)
  case stop =>
    rintro D c pre W _ _ h _
    exact h.elim
end Go.Proofs.Ytllnocffmlagjaa
