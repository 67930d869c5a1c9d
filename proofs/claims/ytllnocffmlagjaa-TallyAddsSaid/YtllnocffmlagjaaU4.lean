/- Contracts of slices.Backward on slices of byte slices and of its iterator. Conditions: each theorem names its own. -/
import Derived.Test.YtllnocffmlagjaaC1
import Derived.Test.YtllnocffmlagjaaU2
import Derived.Test.YtllnocffmlagjaaH3
set_option linter.unusedVariables false
namespace Go.Proofs.Ytllnocffmlagjaa
open Go.RowKit Go.Shelf
attribute [local go_sem] Oper.semAt_some

theorem back_any (w : World) (a : Option Addr) (len cap : Nat) :
    Calls Try.prog 79 #[.slice a len cap] w fun e w' => e = .returned (.func (.func 97) #[] #[.pointer (some ⟨w.heap.size, 0, none⟩)]) ∧ w' = w.alloc (.cells #[.slice a len cap] 27) := by
  go_enter Try.func79, Try.ntmps79
  go_wp2
  go_ret
  exact ⟨rfl, by simp⟩

def backE (us : List Value) (n : Nat) (x : Fin n) : Array Value := #[.int .i64 ((n - 1 - x.val : Nat) : Int), us.getD (n - 1 - x.val) undef]
set_option maxRecDepth 100000 in
set_option maxHeartbeats 2000000 in
theorem back1_in (m l Bs b o n cap : Nat) (A : Option Addr) (us : List Value) (hm : 1 ≤ m) (hn : n ≤ 1000000) (hA : 0 < n → A = some ⟨b, o, none⟩) (J Jx : List (Fin n) → World → Prop)
    (hY : ∀ pre x W, J pre W → pre.length < n → YieldAt Fence.wide (m - 1) Try.prog l (backE us n x) W fun e W' =>
      (e = .returned (.bool true) ∧ J (pre ++ [x]) W' ∧ KB Bs b W W') ∨ (e = .returned (.bool false) ∧ Jx (pre ++ [x]) W'))
    (W : World) (hBs : W.heap[Bs]? = some (.cells #[.slice A n cap] 27 (0, 0))) (hc : ∀ i, i < n → W.cell? ⟨b, o + i, none⟩ = some (us.getD i undef)) (h0 : J [] W) :
    CallsIn Fence.wide m Try.prog 97 #[.func (.yield l) #[] #[], .pointer (some ⟨Bs, 0, none⟩)] W fun e W' => (∃ v, e = .returned v) ∧
      ((∃ ys, ys = List.finRange n ∧ J ys W') ∨ (∃ pre, (∃ k, k ≤ n ∧ pre = (List.finRange n).take k) ∧ Jx pre W')) := by
  have hcs0 : W.cell? ⟨Bs, 0, none⟩ = some (.slice A n cap) := (cell_of_row W Bs 0 _ _ _ hBs).trans rfl
  refine callsIn_of_wp Try.func97 rfl trivial ?_ rfl
  simp only [Try.ntmps97, List.size_toArray, List.length_cons, List.length_nil, Nat.reduceAdd, Nat.reduceSub, Array.replicate_succ, Array.replicate_zero, List.push_toArray, List.append_toArray, List.nil_append, List.cons_append]
  gi_wp2
  gi_loopw [3] (fun i wr => ∃ k : Nat, k ≤ n ∧ i = .int .i64 ((n : Int) - 1 - k) ∧ J ((List.finRange n).take k) wr ∧ KB Bs b W wr)
    (fun i _ => (intOf i + 1).toNat)
  case atStart => exact ⟨0, Nat.zero_le _, by simp, h0, rfl, rfl⟩
  case round =>
    obtain ⟨k, hk, rfl, hJs, hnx⟩ := hrel
    have hcs : wr.cell? ⟨Bs, 0, none⟩ = some (.slice A n cap) := (cell_of_row wr Bs 0 _ _ _ (hnx.1.trans hBs)).trans rfl
    by_cases hlt : k < n
    · obtain rfl := hA (by omega)
      have hce : wr.cell? ⟨b, o + (n - 1 - k), none⟩ = some (us.getD (n - 1 - k) undef) := (World.cell?_of_block (a := ⟨b, o + (n - 1 - k), none⟩) hnx.2).trans (hc _ (by omega))
      obtain ⟨i, hi⟩ : ∃ i, n - 1 - k = i := ⟨_, rfl⟩
      have hii : (n : Int) - 1 - k = i := by omega
      obtain ⟨fn, tmps, assign, body, hy, hR⟩ := hY _ ⟨k, hlt⟩ wr hJs (by rw [List.length_take, List.length_finRange]; omega)
      unfold backE at hy
      dsimp only at hy
      rw [← finRange_snoc] at hR
      rw [hi] at hy hce
      rw [hii]
      generalize us.getD i undef = u at *
      have hin : i < n := by omega
      have hin' : (i : Int) < n := by omega
      have h0i : (0 : Int) ≤ i := by omega
      have hk1 : Hid (k + 1 ≤ n) := by rw [Hid]; omega
      have hnext : Hid ((i : Int) - 1 = (n : Int) - 1 - ((k + 1 : Nat) : Int)) := by rw [Hid]; omega
      clear hY hlt hk hi hii
      gi_wp2
      refine hR.mono ?_
      rintro e W3 (⟨rfl, hJ3, hk3⟩ | ⟨rfl, hJx3⟩)
      · gi_wp2
        go_roundw
        case rel => exact ⟨k + 1, hk1.out, by rw [hnext.out], hJ3, hnx.trans hk3⟩
        case measure => simp [intOf] <;> omega
      · gi_wp2
        refine bodyPost_ret (results_none rfl _ _ _) rfl ?_
        exact ⟨⟨_, rfl⟩, .inr ⟨_, ⟨k + 1, hk1.out, rfl⟩, hJx3⟩⟩
    · obtain rfl : k = n := by omega
      have hl' : (k : Int) - 1 - k = -1 := by omega
      rw [hl']
      clear hlt hk hl' hY
      gi_wp2
      go_end0
      exact ⟨⟨_, rfl⟩, .inl ⟨_, List.take_of_length_le (by simp), hJs⟩⟩

theorem back_stops (m Bs b o n cap : Nat) (A : Option Addr) (us : List Value) (hm : 1 ≤ m) (hn : n ≤ 1000000) (hA : 0 < n → A = some ⟨b, o, none⟩) (w : World) (hs : Bs < w.heap.size)
    (hBs : w.heap[Bs]? = some (.cells #[.slice A n cap] 27 (0, 0))) (hc : ∀ i, i < n → w.cell? ⟨b, o + i, none⟩ = some (us.getD i undef)) :
    SeqStopsK Fence.wide m Try.prog 97 #[.pointer (some ⟨Bs, 0, none⟩)] (backE us n) (KB Bs b)
      (fun ys => ys = List.finRange n) (fun pre => ∃ k, k ≤ n ∧ pre = (List.finRange n).take k) n w := fun l J Jx W hW hJ _ hY h0 =>
  back1_in m l Bs b o n cap A us hm hn hA J Jx hY W ((hW.block Bs hs).trans hBs) (fun i hi => (hW.cell (World.block_lt_of_cell? w _ (hc i hi))).trans (hc i hi)) h0
end Go.Proofs.Ytllnocffmlagjaa
/- Contract of tally.Root. Conditions: at least one item; at most nine roots. -/
set_option linter.unusedVariables false
namespace Go.Proofs.Ytllnocffmlagjaa
open Go.RowKit Go.Shelf
attribute [local go_sem] Oper.semAt_some

/-- the sum of all, off the roots -/
def foldR (rs : List (List UInt8)) : List UInt8 := (rs.take (rs.length - 1)).foldr bothH (rs.getD (rs.length - 1) [])
def sumOf (rs : List (List UInt8)) (q : Nat) (z : List UInt8) (pre : List (Fin q)) : List UInt8 := pre.foldl (fun s x => bothH (rs.getD (q - 1 - x.val) []) s) z
theorem sumOf_snoc (rs : List (List UInt8)) (q : Nat) (z : List UInt8) (pre : List (Fin q)) (x : Fin q) : sumOf rs q z (pre ++ [x]) = bothH (rs.getD (q - 1 - x.val) []) (sumOf rs q z pre) := by
  simp [sumOf]
theorem sumOf_length (rs : List (List UInt8)) (q : Nat) (z : List UInt8) (hz : z.length = 32) : ∀ pre : List (Fin q), (sumOf rs q z pre).length = 32 := by
  have : ∀ (pre : List (Fin q)) (z : List UInt8), z.length = 32 → (pre.foldl (fun s x => bothH (rs.getD (q - 1 - x.val) []) s) z).length = 32 := by
    intro pre
    induction pre with
    | nil => intro z hz; exact hz
    | cons x pre ih => intro z hz; exact ih _ (sha_length _)
  exact fun pre => this pre z hz
theorem range_rev (q : Nat) : (List.range q).map (fun x => q - 1 - x) = (List.range q).reverse := by
  apply List.ext_getElem
  · simp
  · intro i h1 h2
    simp at h1
    simp [List.getElem_reverse]
theorem sumOf_all (rs : List (List UInt8)) (q : Nat) (z : List UInt8) (hq : q ≤ rs.length) : sumOf rs q z (List.finRange q) = (rs.take q).foldr bothH z := by
  have e1 : sumOf rs q z (List.finRange q) = (((List.finRange q).map (·.val)).map (fun x => q - 1 - x)).foldl (fun s x => bothH (rs.getD x []) s) z := by
    unfold sumOf; rw [List.foldl_map, List.foldl_map]
  rw [e1, finRange_vals, range_rev, List.foldl_reverse]
  have e2 : rs.take q = (List.range q).map (fun x => rs.getD x []) := by
    apply List.ext_getElem
    · simp; omega
    · intro i h1 h2
      simp at h1 h2
      simp [List.getD_eq_getElem?_getD, show i < rs.length by omega]
  rw [e2, List.foldr_map]

/-- What the loop of Root keeps. -/
def RI (w : World) (g q : Nat) (rs : List (List UInt8)) (z : List UInt8) (pre : List (Fin q)) (W : World) : Prop :=
  ∃ s, W.heap[g]? = some (.cells #[s] 22 (0, 0)) ∧ OB w W s (sumOf rs q z pre) ∧ g + 2 ≤ W.heap.size
theorem own_kept_nc {A C : World} {b e n : Nat} {v : Value} {xs : List Value} {row : Option Nat} (h : A.ownsRow b e 1 v n xs) (hg : A.grownBy C row) (hr : ∀ r, row = some r → ∃ o : Obj, A.heap[r]? = some o ∧ o.isCells = false) : C.ownsRow b e 1 v n xs := by
  refine h.kept hg ?_
  rcases h.2 with ⟨rfl, _⟩ | ⟨g, cap, cur, rfl, _, hgg, _⟩
  · exact .inl rfl
  · refine .inr fun e => ?_
    obtain ⟨o, ho, hn⟩ := hr g e.symm
    rw [hgg] at ho; cases ho; cases hn
theorem RI.from (w : World) (g q B : Nat) (rs : List (List UInt8)) (z : List UInt8) (hB : w.heap.size ≤ B) : OwnFrom B (RI w g q rs z) := by
  intro pre A C row hs hg hr
  obtain ⟨s, h1, h2, h3⟩ := hs
  have hr' : ∀ r, row = some r → ∃ o : Obj, A.heap[r]? = some o ∧ o.isCells = false := fun r e => (hr r e).2
  exact ⟨s, (grownBy_keeps_cells hg hr' h1 rfl).trans h1, ⟨own_kept_nc h2.1 hg hr', h2.2.grown hg h2.2.size (fun k e => Nat.le_trans hB (hr k e).1)⟩, Nat.le_trans h3 hg.size⟩

set_option maxRecDepth 100000 in
set_option maxHeartbeats 2000000 in
theorem troot_any (w0 w : World) (P n : Nat) (rs : List (List UInt8)) (rv : Value) (vs : List Value) (hT : TI w0 w P n rs rv vs) (hn : 0 < n) (hl1 : 1 ≤ rs.length) (hl9 : rs.length ≤ 9) (h32 : ∀ i, i < rs.length → (rs.getD i []).length = 32) :
    Calls Try.prog 34 #[.pointer (some ⟨P, 0, none⟩)] w fun e w' => ∃ r, e = .returned r ∧ OB w w' r (foldR rs) := by
  obtain ⟨A, cap, rfl⟩ := hT.shape
  obtain ⟨q, hq⟩ : ∃ q, rs.length = q + 1 := ⟨rs.length - 1, by omega⟩
  obtain ⟨c0, c1, cf⟩ := hT.cells
  obtain ⟨b, o, rfl, ce, hse⟩ := hT.at q (by omega)
  have hz32 := h32 q (by omega)
  have hcl := clone_any w _ _ hse (by omega)
  have hcap : q + 1 ≤ cap := by
    obtain ⟨a', c', he, h1, _⟩ := Sl.of_own hT.row
    injection he with _ e2 e3
    have := hT.len
    omega
  have hfold : foldR rs = (rs.take q).foldr bothH (rs.getD q []) := by unfold foldR; rw [hq]; rfl
  have hall := sumOf_all rs q (rs.getD q []) (by omega)
  have hsl := sumOf_length rs q (rs.getD q []) hz32
  rw [hfold, ← hall]
  rw [hq] at c1 hT
  have HT := Lib.hid hT
  have H32 := Lib.hid h32
  have HQ := Lib.hid hq
  have HSL := Lib.hid hsl
  have hn0 : ¬ ((n : Int) = 0) := by omega
  have hq9 : (q : Int) ≤ 9 := by omega
  have hqc : (q : Int) < cap := by omega
  have hqe : ((q + 1 : Nat) : Int) - 1 = q := by omega
  have hz : Hid ((rs.getD q []).length = 32) := hz32
  generalize hzz : rs.getD q [] = z at *
  obtain ⟨sa, sc, hsh, _⟩ := hse.openB
  clear hse cf hT h32 hsl hall hfold
  refine (callsIn_wide (n := 3)).1 ?_
  refine callsIn_of_wp_marks Try.func34 rfl trivial ?_ rfl
  simp only [Try.ntmps34, List.size_toArray, List.length_cons, List.length_nil, Nat.reduceAdd, Nat.reduceSub, Array.replicate_succ, Array.replicate_zero, List.push_toArray, List.append_toArray, List.nil_append, List.cons_append]
  refine wpIn_wide.2 ?_
  go_wp2_with (first
    | (go_at_call 78; refine hcl.mono ?_; rintro e w1 ⟨r1, rfl, hB1, hO1⟩; clear hcl; obtain ⟨A1, k1, rfl⟩ := own_shape (show w1.ownsRow w.heap.size 5 1 _ 32 (bv z) from by rw [← hz.out]; exact hO1); have c1b : (w1.alloc (.cells #[.slice A1 32 k1] 22)).cell? ⟨P, 1, none⟩ = some (.slice (some ⟨b, o, none⟩) (q + 1) cap) := (((Below.refl w1.heap.size w1).alloc (Nat.le_refl _) _).cell (World.block_lt_of_cell? _ _ ((hB1.cell (World.block_lt_of_cell? _ _ c1)).trans c1))).trans ((hB1.cell (World.block_lt_of_cell? _ _ c1)).trans c1); replace c0 := (hB1.cell (World.block_lt_of_cell? _ _ c0)).trans c0; replace c1 := (hB1.cell (World.block_lt_of_cell? _ _ c1)).trans c1)
    | (go_at_call 79; refine (back_any _ _ _ _).mono ?_; rintro e w6 ⟨rfl, rfl⟩))
  have hB7 : Below w1.heap.size w1 ((w1.alloc (.cells #[.slice A1 32 k1] 22)).alloc (.cells #[.slice (some ⟨b, o, none⟩) q cap] 27)) := ((Below.refl _ w1).alloc (Nat.le_refl _) _).alloc (by simp) _
  have g7 : ((w1.alloc (.cells #[.slice A1 32 k1] 22)).alloc (.cells #[.slice (some ⟨b, o, none⟩) q cap] 27)).heap[w1.heap.size]? = some (.cells #[.slice A1 32 k1] 22 (0, 0)) :=
    (Below.heap_alloc _ _ _ (by simp)).trans (heap_alloc_new w1 _)
  have b7 : ((w1.alloc (.cells #[.slice A1 32 k1] 22)).alloc (.cells #[.slice (some ⟨b, o, none⟩) q cap] 27)).heap[w1.heap.size + 1]? = some (.cells #[.slice (some ⟨b, o, none⟩) q cap] 27 (0, 0)) := by
    have := heap_alloc_new (w1.alloc (.cells #[.slice A1 32 k1] 22)) (.cells #[.slice (some ⟨b, o, none⟩) q cap] 27)
    rw [World.size_alloc] at this; exact this
  have s7 : ((w1.alloc (.cells #[.slice A1 32 k1] 22)).alloc (.cells #[.slice (some ⟨b, o, none⟩) q cap] 27)).heap.size = w1.heap.size + 2 := by simp
  have hwg : w.heap.size ≤ w1.heap.size := hB1.size
  have H7 := below_then hB1 hwg hB7
  have hO7 : OB w ((w1.alloc (.cells #[.slice A1 32 k1] 22)).alloc (.cells #[.slice (some ⟨b, o, none⟩) q cap] 27)) (.slice A1 32 k1) z := by
    rw [hz.out] at hO1
    exact ⟨own_below (by rw [hz.out]; exact hO1) hB7, H7⟩
  have hT7 := (HT.out.later hB1).later hB7
  have hbP : b < w1.heap.size := by
    obtain ⟨b', o', e, hc, _⟩ := HT.out.at q (by rw [HQ.out]; omega)
    cases e
    exact Nat.lt_of_lt_of_le (World.block_lt_of_cell? w _ hc) hwg
  generalize (w1.alloc (.cells #[.slice A1 32 k1] 22)).alloc (.cells #[.slice (some ⟨b, o, none⟩) q cap] 27) = W7 at *
  have hcs : ∀ i, i < q → W7.cell? ⟨b, o + i, none⟩ = some (vs.getD i undef) := fun i hi => by
    obtain ⟨b', o', e, hc, _⟩ := hT7.at i (by rw [HQ.out]; omega)
    cases e; exact hc
  have HT7 := Lib.hid hT7
  clear hT7 c0 c1 c1b hO1 hB1 hB7 ce
  generalize w1.heap.size = g at *
  refine (wpIn_wide (n := 3)).1 ?_
  refine wpIn_rangeFunc_ownG rfl (by decide) (gf := 97) (lb := #[.pointer (some ⟨g + 1, 0, none⟩)]) rfl trivial (enters_of Try.func97 (by kernel_rfl) rfl)
    (back_stops 2 (g + 1) b o q cap (some ⟨b, o, none⟩) vs (by decide) (by omega) (fun _ => rfl) W7 (by omega) b7 hcs) (fun h k => h.trans k)
    (fun W l x x' h1 h2 h3 h4 => ⟨(belowK_b (w := W7) (Nat.le_refl _) W l x x' h1 h2 h3 h4).block _ (by omega), (belowK_b (w := W7) (Nat.le_refl _) W l x x' h1 h2 h3 h4).block _ (by omega)⟩)
    (Below.refl _ _) (fun _ => rfl) (RI w g q rs z) (fun _ _ _ => False) (RI.from w g q _ _ _ H7.size) (fun _ _ _ _ _ hs _ _ => hs) ⟨_, g7, hO7, by omega⟩
    (fun x => { tmps := #[.pointer (some ⟨P, 0, none⟩), undef, .slice none 0 0, .int .i64 q,
          .pointer (some ⟨g, 0, none⟩), undef, vs.getD (q - 1 - x.val) undef, .bool false,
          .pointer (some ⟨P, 0, none⟩), .bool false, .bool false,
          .pointer (some ⟨P, 0, none⟩), .pointer (some ⟨P, 0, none⟩),
          .pointer (some ⟨P, 0, none⟩), .int .i64 n, .bool false, undef,
          .pointer (some ⟨P, 0, none⟩), .pointer (some ⟨P, 0, none⟩),
          .pointer (some ⟨P, 1, none⟩), .slice (some ⟨b, o, none⟩) (q + 1) cap,
          .int .i64 (q + 1), .int .i64 q, .pointer (some ⟨P, 0, none⟩),
          .pointer (some ⟨P, 0, none⟩), .pointer (some ⟨P, 1, none⟩),
          .slice (some ⟨b, o, none⟩) (q + 1) cap, .int .i64 q,
          .pointer (some ⟨b, o + q, none⟩), vs[q]?.getD undef, .slice A1 32 k1,
          .pointer (some ⟨P, 0, none⟩), .pointer (some ⟨P, 0, none⟩),
          .pointer (some ⟨P, 1, none⟩), .slice (some ⟨b, o, none⟩) (q + 1) cap,
          .int .i64 q, .slice (some ⟨b, o, none⟩) q cap,
          .func (.func 97) #[] #[.pointer (some ⟨g + 1, 0, none⟩)], .int .i64 ((q - 1 - x.val : Nat) : Int), vs.getD (q - 1 - x.val) undef,
          undef, undef, undef, undef], defers := [] }) ?assign ?body ?done ?stop
  case assign =>
    intro l x W K hK
    unfold backE
    revert hK
    generalize vs.getD (q - 1 - x.val) undef = u
    generalize ((q - 1 - x.val : Nat) : Int) = I
    intro hK
    gi_wp2
    exact hK
  case body =>
    rintro l pre x W ⟨s, hg, hO, hgs⟩ _
    have hTW := HT.out.later hO.2
    obtain ⟨b', o', _, _, hse⟩ := hTW.at (q - 1 - x.val) (by rw [HQ.out]; omega)
    have hl32 := H32.out (q - 1 - x.val) (by rw [HQ.out]; omega)
    have hcb := both_any W _ _ _ _ hse hO.sl (by rw [hl32, HSL.out]; omega)
    rw [← sumOf_snoc] at hcb
    have hcg : W.cell? ⟨g, 0, none⟩ = some s := (cell_of_row W g 0 _ _ _ hg).trans rfl
    have HG := Lib.hid hg
    have HO := Lib.hid hO
    obtain ⟨S, hS⟩ : ∃ S, sumOf rs q z (pre ++ [x]) = S := ⟨_, rfl⟩
    have HS := Lib.hid hS
    have hSl : S.length = 32 := by rw [← hS]; exact HSL.out _
    have HSl := Lib.hid hSl
    rw [hS] at hcb
    generalize vs.getD (q - 1 - x.val) undef = u at *
    generalize ((q - 1 - x.val : Nat) : Int) = I at *
    clear hse hO hTW hg hS hSl
    gi_wp2_with (refine ⟨trivial, ?_⟩; gi_at_call 69; refine (CallsIn.inRound l (callsIn_wide.2 hcb)).mono ?_; rintro e W9 ⟨r9, rfl, hO9⟩; clear hcb; have hg9 : W9.heap[g]? = some (.cells #[s] 22 (0, 0)) := (hO9.2.block g (by omega)).trans HG.out; have c9 : W9.cell? ⟨g, 0, none⟩ = some s := (cell_of_row W9 g 0 _ _ _ hg9).trans rfl; have f9 := frozen_of_row W9 g 0 _ _ hg9; obtain ⟨A9, k9, hr9⟩ := hO9.shape; have HO9 := Lib.hid hO9; subst hr9; clear hO9)
    have hO9 := HO9.out
    have hgr : W.grownBy (W9.setCell ⟨g, 0, none⟩ (.slice A9 S.length k9)) (some g) :=
      ⟨hO9.2.os, hO9.2.tape, hO9.2.output, by have := hO9.2.size; simp; omega, fun k hk hne => (heap_setCell_other _ _ _ _ (fun e => hne (by rw [e]))).trans (hO9.2.block k hk)⟩
    have hg9' : W9.heap[g]? = some (.cells #[s] 22 (0, 0)) := (hO9.2.block g (by omega)).trans HG.out
    refine ⟨KeepsFrom.of_grownBy hgr (fun j e => by cases e; omega), ⟨hgr.block _ (by omega) (by simp), hgr.block _ (by omega) (by simp; omega)⟩, .slice A9 S.length k9, ?_, ?_, ?_⟩
    · rw [heap_setCell_same _ _ _ _ _ _ hg9']; rfl
    · rw [HS.out]
      have hr := own_setP (k := 0) (u := .slice A9 S.length k9) hg9' (own_rebase hO9.1 HO.out.2.size) (by decide)
      exact ⟨hr, HO.out.2.grown hgr HO.out.2.size (fun k e => by cases e; exact hwg)⟩
    · exact Nat.le_trans hgs hgr.size
  case done =>
    rintro D ys W hD rfl ⟨s, hg, hO, hgs⟩ hK
    have hcg : W.cell? ⟨g, 0, none⟩ = some s := (cell_of_row W g 0 _ _ _ hg).trans rfl
    have hne : ∀ j, s.ownBlock = some j → j ≠ D := by
      intro j h2 h3
      rcases hO.1.2 with ⟨rfl, _⟩ | ⟨g', cap', cur, rfl, _, hg', _⟩
      · cases h2
      · cases h2; dsimp only at h3; rw [h3, hK] at hg'; cases hg'
    have hDw : w.heap.size ≤ D := by have := H7.size; omega
    have HO := Lib.hid hO
    have HNE := Lib.hid hne
    clear hO hne hg
    go_wp2
    refine ⟨by simp, .inl ⟨_, _, rfl, run_takeDeferred hK, ?_⟩⟩
    refine ⟨_, results_tmp rfl _ _ _, _, rfl, ?_, ?_⟩
    · refine HO.out.1.kept (row := some D) (grownBy_putObj' _ D _) ?_
      exact .inr (fun e => HNE.out D e rfl)
    · exact HO.out.2.trans (belowK_b (w := w) (Nat.le_refl _) W D _ _ hDw hK rfl rfl)
  case stop =>
    rintro D c pre W _ _ h _
    exact h.elim

set_option maxHeartbeats 1000000 in
theorem troot_zero (w : World) (P : Nat) (rv : Value) (h : w.heap[P]? = some (.cells #[.int .i64 0, rv] 105 (0, 0))) :
    Calls Try.prog 34 #[.pointer (some ⟨P, 0, none⟩)] w fun e w' => ∃ r, e = .returned r ∧ OB w w' r (sha []) := by
  have c0 : w.cell? ⟨P, 0, none⟩ = some (.int .i64 0) := (cell_of_row w P 0 _ _ _ h).trans rfl
  have hc := sum_any w _ [] (Parts.nil w) (by simp) (by simp)
  clear h
  go_enter Try.func34, Try.ntmps34
  go_wp2_with (go_at_call 13; refine hc.mono ?_; rintro e w1 ⟨r, rfl, hO⟩; clear hc)
  go_ret
  exact ⟨_, rfl, hO⟩

/-! ### the law: the root of the tally is that of the tree -/
def rootsN (ps : List (List UInt8)) : Nat → List (List UInt8)
  | 0 => []
  | k + 1 => carryF 8 k (rootsN ps k) (leafH (ps.getD k []))
theorem rootsN_len (ps : List (List UInt8)) : ∀ k, k < 255 → (rootsN ps k).length = pcF 8 k
  | 0, _ => rfl
  | k + 1, h => pcF_carry 8 k _ _ (rootsN_len ps k (by omega)) (by omega)
theorem carry_all (p : List UInt8 → Prop) (hb : ∀ a b, p (bothH a b)) : ∀ f m rs s, (∀ i, i < rs.length → p (rs.getD i [])) → p s → ∀ i, i < (carryF f m rs s).length → p ((carryF f m rs s).getD i [])
  | f, m, rs, s, hr, hs => by
    have base : ∀ rs : List (List UInt8), (∀ i, i < rs.length → p (rs.getD i [])) → ∀ i, i < (rs ++ [s]).length → p ((rs ++ [s]).getD i []) := by
      intro rs hr i hi
      rw [List.length_append] at hi
      by_cases h : i < rs.length
      · rw [List.getD_eq_getElem?_getD, List.getElem?_append_left h, ← List.getD_eq_getElem?_getD]; exact hr i h
      · have : i = rs.length := by simp at hi; omega
        subst this
        rw [List.getD_eq_getElem?_getD, List.getElem?_append_right (Nat.le_refl _), Nat.sub_self]; exact hs
    cases f with
    | zero => exact base rs hr
    | succ f =>
      rw [carryF]
      split
      · refine carry_all p hb f _ _ _ (fun i hi => ?_) (hb _ _)
        rw [List.length_take] at hi
        rw [List.getD_eq_getElem?_getD, List.getElem?_take, if_pos (by omega), ← List.getD_eq_getElem?_getD]
        exact hr i (by omega)
      · exact base rs hr
theorem rootsN_32 (ps : List (List UInt8)) : ∀ k i, i < (rootsN ps k).length → ((rootsN ps k).getD i []).length = 32
  | 0, i, h => absurd h (by simp [rootsN])
  | k + 1, i, h => carry_all (fun s => s.length = 32) (fun _ _ => sha_length _) 8 k (rootsN ps k) _ (rootsN_32 ps k) (sha_length _) i h
theorem take_map (ps : List (List UInt8)) (k : Nat) (h : k ≤ ps.length) : ps.take k = (List.range k).map fun i => ps.getD i [] := by
  apply List.ext_getElem
  · simp; omega
  · intro i h1 h2
    simp at h1 h2
    simp [List.getD_eq_getElem?_getD, show i < ps.length by omega]
theorem rt1 (ps : List (List UInt8)) : foldR (rootsN ps 1) = treeF 20 ((List.range 1).map fun i => ps.getD i []) := by kernel_rfl
theorem rt2 (ps : List (List UInt8)) : foldR (rootsN ps 2) = treeF 20 ((List.range 2).map fun i => ps.getD i []) := by kernel_rfl
theorem rt3 (ps : List (List UInt8)) : foldR (rootsN ps 3) = treeF 20 ((List.range 3).map fun i => ps.getD i []) := by kernel_rfl
theorem rt4 (ps : List (List UInt8)) : foldR (rootsN ps 4) = treeF 20 ((List.range 4).map fun i => ps.getD i []) := by kernel_rfl
theorem rt5 (ps : List (List UInt8)) : foldR (rootsN ps 5) = treeF 20 ((List.range 5).map fun i => ps.getD i []) := by kernel_rfl
theorem rt6 (ps : List (List UInt8)) : foldR (rootsN ps 6) = treeF 20 ((List.range 6).map fun i => ps.getD i []) := by kernel_rfl
theorem rt7 (ps : List (List UInt8)) : foldR (rootsN ps 7) = treeF 20 ((List.range 7).map fun i => ps.getD i []) := by kernel_rfl
theorem rt8 (ps : List (List UInt8)) : foldR (rootsN ps 8) = treeF 20 ((List.range 8).map fun i => ps.getD i []) := by kernel_rfl
theorem rt9 (ps : List (List UInt8)) : foldR (rootsN ps 9) = treeF 20 ((List.range 9).map fun i => ps.getD i []) := by kernel_rfl
theorem rt10 (ps : List (List UInt8)) : foldR (rootsN ps 10) = treeF 20 ((List.range 10).map fun i => ps.getD i []) := by kernel_rfl
theorem rt11 (ps : List (List UInt8)) : foldR (rootsN ps 11) = treeF 20 ((List.range 11).map fun i => ps.getD i []) := by kernel_rfl
theorem rt12 (ps : List (List UInt8)) : foldR (rootsN ps 12) = treeF 20 ((List.range 12).map fun i => ps.getD i []) := by kernel_rfl
theorem rt13 (ps : List (List UInt8)) : foldR (rootsN ps 13) = treeF 20 ((List.range 13).map fun i => ps.getD i []) := by kernel_rfl
theorem rt14 (ps : List (List UInt8)) : foldR (rootsN ps 14) = treeF 20 ((List.range 14).map fun i => ps.getD i []) := by kernel_rfl
theorem rt15 (ps : List (List UInt8)) : foldR (rootsN ps 15) = treeF 20 ((List.range 15).map fun i => ps.getD i []) := by kernel_rfl
theorem rt16 (ps : List (List UInt8)) : foldR (rootsN ps 16) = treeF 20 ((List.range 16).map fun i => ps.getD i []) := by kernel_rfl
theorem rt17 (ps : List (List UInt8)) : foldR (rootsN ps 17) = treeF 20 ((List.range 17).map fun i => ps.getD i []) := by kernel_rfl
theorem rt18 (ps : List (List UInt8)) : foldR (rootsN ps 18) = treeF 20 ((List.range 18).map fun i => ps.getD i []) := by kernel_rfl
theorem rt19 (ps : List (List UInt8)) : foldR (rootsN ps 19) = treeF 20 ((List.range 19).map fun i => ps.getD i []) := by kernel_rfl
theorem rt20 (ps : List (List UInt8)) : foldR (rootsN ps 20) = treeF 20 ((List.range 20).map fun i => ps.getD i []) := by kernel_rfl
theorem root_tree (ps : List (List UInt8)) (k : Nat) (h1 : 1 ≤ k) (h20 : k ≤ 20) (hk : k ≤ ps.length) : foldR (rootsN ps k) = treeF 20 (ps.take k) := by
  rw [take_map ps k hk]
  obtain rfl | rfl | rfl | rfl | rfl | rfl | rfl | rfl | rfl | rfl | rfl | rfl | rfl | rfl | rfl | rfl | rfl | rfl | rfl | rfl : k = 1 ∨ k = 2 ∨ k = 3 ∨ k = 4 ∨ k = 5 ∨ k = 6 ∨ k = 7 ∨ k = 8 ∨ k = 9 ∨ k = 10 ∨ k = 11 ∨ k = 12 ∨ k = 13 ∨ k = 14 ∨ k = 15 ∨ k = 16 ∨ k = 17 ∨ k = 18 ∨ k = 19 ∨ k = 20 := by omega
  · exact rt1 ps
  · exact rt2 ps
  · exact rt3 ps
  · exact rt4 ps
  · exact rt5 ps
  · exact rt6 ps
  · exact rt7 ps
  · exact rt8 ps
  · exact rt9 ps
  · exact rt10 ps
  · exact rt11 ps
  · exact rt12 ps
  · exact rt13 ps
  · exact rt14 ps
  · exact rt15 ps
  · exact rt16 ps
  · exact rt17 ps
  · exact rt18 ps
  · exact rt19 ps
  · exact rt20 ps
end Go.Proofs.Ytllnocffmlagjaa
