/- Contract of ref31.Mark. Conditions: lengths within memory. -/
import Derived.Test.YtllnocffmlagjaaS2
import Derived.Test.YtllnocffmlagjaaR9
set_option linter.unusedVariables false
namespace Go.Proofs.Ytllnocffmlagjaa
open Go.RowKit

/-- Two byte slices of the call's own, each in a row of its own. -/
structure OB2 (w0 wr : World) (u v : Value) (xa bs : List UInt8) : Prop where
  a : OB w0 wr u xa
  b : OB w0 wr v bs
  ne : ∀ k, u.ownBlock = some k → v.ownBlock = some k → False
theorem OB2.swap {w0 wr : World} {u v : Value} {xa bs : List UInt8} (h : OB2 w0 wr u v xa bs) : OB2 w0 wr v u bs xa := ⟨h.b, h.a, fun k h1 h2 => h.ne k h2 h1⟩
theorem OB2.later {w0 wr w' : World} {u v : Value} {xa bs : List UInt8} (h : OB2 w0 wr u v xa bs) (hb : Below wr.heap.size wr w') : OB2 w0 w' u v xa bs := ⟨h.a.later hb, h.b.later hb, h.ne⟩
theorem OB.block_lt {w0 wr : World} {v : Value} {bs : List UInt8} (h : OB w0 wr v bs) (k : Nat) (hk : v.ownBlock = some k) : k < wr.heap.size := by
  rcases h.1.2 with ⟨rfl, _⟩ | ⟨g, cap, cur, rfl, _, hg, _⟩
  · cases hk
  · cases hk; exact (Array.getElem?_eq_some_iff.1 hg).1
section
variable {ops : Array Oper} {rest : List Oper} {o : Oper} {a : Act} {Q : Exit → Act → World → Prop}
theorem wpL_push2 (w0 W : World) (hgd : o.guard = none) (s x : Operand)
    (ho : o.op = .call { callee := .builtin .append, args := #[s, x], argTypes := #[22, 22] })
    (v u : Value) (bs cs : List UInt8) (hs : a.eval s = v) (hOB : OB2 w0 W v u bs cs) (Y : Int) (y : UInt8) (hY : Y = V8 y) (hx : a.eval x = .slice (some ⟨W.heap.size, 0, none⟩) 1 1)
    (n : Nat) (hn : bs.length + 1 = n) (hb : n ≤ 140737488355328)
    (h : ∀ A cap w', OB2 w0 w' (.slice A n cap) u (bs ++ [y]) cs → wpList Try.prog ops Q rest (a.put o.dst (.slice A n cap)) w') :
    wpList Try.prog ops Q (o :: rest) a (W.alloc (.cells #[.int .u8 Y] 5)) := by
  subst hY; subst hn
  have hal : Below W.heap.size W (W.alloc (.cells #[.int .u8 (V8 y)] 5)) := (Below.refl _ W).alloc (Nat.le_refl _) _
  refine wpL_app _ hgd s x 22 5 _ 1 ho Try.underlying22 inf5 rfl (by decide) w0.heap.size v (bv bs) hs (own_below hOB.a.own hal) _ _ hx
    (Sl_new W 5 [.int .u8 (V8 y)] (by simp [maxLen])) (by simp [Value.oneCell']) (bs.length + 1) (by simp [bv_length]) (by omega) (Nat.le_trans hOB.a.2.size hal.size) fun A cap w' h1 h2 h3 h4 => ?_
  have e : bv bs ++ [.int .u8 (V8 y)] = bv (bs ++ [y]) := by simp [bv]
  rw [e] at h1
  have hb2 := (below_then hOB.a.2 hOB.a.2.size hal).trans h2
  refine h A cap w' ⟨⟨by simpa using h1, hb2⟩, ⟨?_, hb2⟩, ?_⟩
  · refine (own_below hOB.b.1 hal).kept h3 ?_
    cases hu : u.ownBlock with
    | none => exact .inl rfl
    | some k => exact .inr fun e => hOB.ne k e.symm hu
  · intro k hk hu
    rcases h4 with h4 | h4
    · rw [h4] at hk; exact hOB.ne k hk hu
    · rw [h4] at hk; cases hk
      have := hOB.b.block_lt _ hu
      have := hal.size
      omega
theorem wpL_cat2 (w0 W : World) (hgd : o.guard = none) (s x : Operand)
    (ho : o.op = .call { callee := .builtin .append, args := #[s, x], argTypes := #[22, 22] })
    (v u : Value) (bs cs : List UInt8) (hs : a.eval s = v) (hOB : OB2 w0 W v u bs cs) (src : Value) (ys : List UInt8) (hx : a.eval x = src) (hsl : Sl W src (bv ys))
    (n : Nat) (hn : bs.length + ys.length = n) (hb : n ≤ 140737488355328)
    (h : ∀ A cap w', OB2 w0 w' (.slice A n cap) u (bs ++ ys) cs → wpList Try.prog ops Q rest (a.put o.dst (.slice A n cap)) w') :
    wpList Try.prog ops Q (o :: rest) a W := by
  subst hn
  refine wpL_app _ hgd s x 22 5 _ 1 ho Try.underlying22 inf5 rfl (by decide) w0.heap.size v (bv bs) hs hOB.a.own _ _ hx
    hsl (bv_one _) (bs.length + ys.length) (by simp [bv_length]) (by omega) hOB.a.2.size fun A cap w' h1 h2 h3 h4 => ?_
  rw [← bv_append] at h1
  have hb2 := hOB.a.2.trans h2
  refine h A cap w' ⟨⟨by simpa using h1, hb2⟩, ⟨?_, hb2⟩, ?_⟩
  · refine hOB.b.1.kept h3 ?_
    cases hu : u.ownBlock with
    | none => exact .inl rfl
    | some k => exact .inr fun e => hOB.ne k e.symm hu
  · intro k hk hu
    rcases h4 with h4 | h4
    · rw [h4] at hk; exact hOB.ne k hk hu
    · rw [h4] at hk; cases hk
      have := hOB.b.block_lt _ hu
      omega
end
theorem v8_x92 (a : UInt8) : bits .xor .u8 (V8 a) 92 = V8 (a ^^^ 92) := v8_xor a 92
theorem v8_x54 (a : UInt8) : bits .xor .u8 (V8 a) 54 = V8 (a ^^^ 54) := v8_xor a 54
theorem addK_map (k : List UInt8) (x : UInt8) (h : k.length = 64) : addK k x = k.map (· ^^^ x) := by
  unfold addK xorL
  apply List.ext_getElem
  · simp [h]
  · intro i h1 h2
    rw [List.getElem_zipWith, List.getElem_map, List.getElem_replicate]
theorem map_snoc (k : List UInt8) (x : UInt8) (i : Nat) (h : i < k.length) : (k.take (i + 1)).map (· ^^^ x) = (k.take i).map (· ^^^ x) ++ [k.getD i 0 ^^^ x] := by
  rw [List.take_succ_eq_append_getElem h, List.map_append, List.getD_eq_getElem?_getD, List.getElem?_eq_getElem h]; rfl
theorem pad_in (key : List UInt8) (i : Nat) (h : i < (keyed key).length) : (padK key).getD i 0 = (keyed key).getD i 0 := by
  rw [padK, List.getD_eq_getElem?_getD, List.getElem?_append_left h, ← List.getD_eq_getElem?_getD]
theorem pad_out (key : List UInt8) (i : Nat) (h : (keyed key).length ≤ i) : (padK key).getD i 0 = 0 := by
  rw [padK, List.getD_eq_getElem?_getD, List.getElem?_append_right h, List.getElem?_replicate]; split <;> rfl

attribute [local go_sem] v8_x92 v8_x54
set_option maxRecDepth 100000 in
set_option maxHeartbeats 2000000 in
theorem rmark_any (w : World) (v b : Value) (key m : List UInt8) (hv : Sl w v (bv key)) (hb : Sl w b (bv m)) (hk : key.length ≤ 1000) (hl : m.length ≤ 140737488350000) :
    Calls Try.prog 43 #[v, b] w fun e w' => ∃ r, e = .returned r ∧ OB w w' r (mark key m) := by
  have hkl := keyed_length key
  have hpl := padK_length key
  have hpi := Lib.hid (pad_in key)
  have hpo := Lib.hid (pad_out key)
  obtain ⟨ab, cb, rfl, _, _, _, _⟩ := hb.openB
  have HB := Lib.hid hb
  obtain ⟨n, hn⟩ : ∃ n, m.length = n := ⟨_, rfl⟩
  have HN := Lib.hid hn
  have HL := Lib.hid hl
  rw [hn] at HB ⊢
  unfold mark
  rw [addK_map _ _ hpl, addK_map _ _ hpl]
  clear hb hn hl
  have z92 : bits BinOp.xor .u8 0 92 = V8 (0 ^^^ 92) := by decide
  have z54 : bits BinOp.xor .u8 0 54 = V8 (0 ^^^ 54) := by decide
  by_cases hc : 64 < key.length
  · have hc' : (64 : Int) < key.length := by omega
    have hk1 : keyed key = sha key := if_pos hc
    have hone := rsum_any w v key hv (by omega)
    obtain ⟨a, cap, rfl, _, _, _, _⟩ := hv.openB
    rw [hk1] at hkl hpi hpo
    generalize sha key = kk at *
    generalize padK key = pk at *
    clear hk hk1
    have hkl' : (kk.length : Int) ≤ 64 := by omega
    go_enter Try.func43, Try.ntmps43
    go_wp2_with (first
      | (go_at_call 14; refine hone.mono ?_; rintro e w1 ⟨r1, rfl, hO⟩; clear hone; obtain ⟨A1, c1, rfl⟩ := hO.shape)
      | fail)
    have hKK := hO.sl
    have hBW : Below w.heap.size w w1 := hO.2
    have hal1 : Below w1.heap.size w1 (w1.alloc (.cells #[] 5)) := (Below.refl _ w1).alloc (Nat.le_refl _) _
    have hO1 : OB w1 (w1.alloc (.cells #[] 5)) (.slice (some ⟨w1.heap.size, 0, none⟩) 0 0) [] := by
      refine ⟨own_new w1 w1.heap.size 5 [] (by simp [maxLen]) (Nat.le_refl _), hal1⟩
    have hal2 : Below (w1.alloc (.cells #[] 5)).heap.size (w1.alloc (.cells #[] 5)) ((w1.alloc (.cells #[] 5)).alloc (.cells #[] 5)) := (Below.refl _ _).alloc (Nat.le_refl _) _
    have hO2 : OB w1 ((w1.alloc (.cells #[] 5)).alloc (.cells #[] 5)) (.slice (some ⟨(w1.alloc (.cells #[] 5)).heap.size, 0, none⟩) 0 0) [] := by
      refine ⟨own_new _ w1.heap.size 5 [] (by simp [maxLen]) hal1.size, below_then hO1.2 hO1.2.size hal2⟩
    have h12 : OB2 w1 ((w1.alloc (.cells #[] 5)).alloc (.cells #[] 5)) (.slice (some ⟨w1.heap.size, 0, none⟩) 0 0) (.slice (some ⟨w1.heap.size + 1, 0, none⟩) 0 0) [] [] := by
      rw [World.size_alloc] at hO2
      refine ⟨hO1.later hal2, hO2, fun k h1 h2 => ?_⟩
      cases h1; simp [Value.ownBlock] at h2
    have HM := Lib.hid (fun i (h : i < 64) => (⟨map_snoc pk 92 i (by omega), map_snoc pk 54 i (by omega)⟩ : _ ∧ _))
    have HT := Lib.hid (List.take_of_length_le (l := pk) (i := 64) (by omega))
    generalize hW0 : (w1.alloc (.cells #[] 5)).alloc (.cells #[] 5) = W0 at *
    have HKC := Lib.hid hKK.openB
    have H12 := Lib.hid h12
    have HBW := Lib.hid hBW
    clear hal1 hal2 hO1 hO2 h12 hKK hBW
    go_loopw [5, 6, 7, 8, 16] (fun o t i _ _ wr => ∃ (k : Nat) (d1 d2 : List UInt8), k ≤ 64 ∧ i = .int .i64 k ∧ Hid (d1 = (pk.take k).map (· ^^^ 92)) ∧ Hid (d2 = (pk.take k).map (· ^^^ 54)) ∧ d1.length = k ∧ d2.length = k ∧ OB2 w1 wr o t d1 d2) (fun _ _ i _ _ _ => (64 - intOf i).toNat)
    case atStart => exact ⟨0, [], [], by omega, rfl, rfl, rfl, rfl, rfl, H12.out⟩
    case round =>
      obtain ⟨k, d1, d2, hk, rfl, hd1, hd2, l1, l2, h12⟩ := hrel
      obtain ⟨A5, c5, rfl⟩ := h12.a.shape
      obtain ⟨A6, c6, rfl⟩ := h12.b.shape
      rw [l1, l2] at h12 ⊢
      by_cases hlt : k < 64
      · obtain ⟨m1, m2⟩ := HM.out k hlt
        have hlt' : (k : Int) < 64 := by omega
        by_cases hin : k < kk.length
        · have hin' : (k : Int) < kk.length := by omega
          have hpk := hpi.out k hin
          obtain ⟨_, _, e, _, _, _, hrd⟩ := HKC.out
          cases e
          obtain ⟨g, o, rfl, hc0⟩ := hrd.byte k hin
          replace hc0 := (h12.a.2.cell (World.block_lt_of_cell? _ _ hc0)).trans hc0
          rw [← hpk] at hc0
          generalize pk.getD k 0 = x at *
          have M1 := Lib.hid m1
          have M2 := Lib.hid m2
          have Hk1 : Hid (k + 1 ≤ 64) := hlt
          clear hrd hpk m1 m2 hlt hin hk
          go_wp2_with (first
            | (at_builtin; refine wpL_push2 w1 _ rfl _ _ rfl _ _ _ _ rfl h3.swap _ (x ^^^ 54) rfl rfl (k + 1) (by omega) (by omega) ?_; intro A4 c4 w4 h4; replace h4 := h4.swap)
            | (at_builtin; refine wpL_push2 w1 _ rfl _ _ rfl _ _ _ _ rfl h12 _ (x ^^^ 92) rfl rfl (k + 1) (by omega) (by omega) ?_; intro A3 c3 w3 h3))
          exact ⟨⟨k + 1, _, _, Hk1.out, by simp, by rw [Hid, M1.out, hd1.out], by rw [Hid, M2.out, hd2.out], by simp [l1], by simp [l2], h4⟩, by simp [intOf] <;> omega⟩
        · have hin' : ¬ ((k : Int) < kk.length) := by omega
          have hpk := hpo.out k (by omega)
          rw [hpk] at m1 m2
          have M1 := Lib.hid m1
          have M2 := Lib.hid m2
          have Hk1 : Hid (k + 1 ≤ 64) := hlt
          clear hpk m1 m2 hlt hin hk
          go_wp2_with (first
            | (at_builtin; refine wpL_push2 w1 _ rfl _ _ rfl _ _ _ _ rfl h3.swap _ (0 ^^^ 54) rfl rfl (k + 1) (by omega) (by omega) ?_; intro A4 c4 w4 h4; replace h4 := h4.swap)
            | (at_builtin; refine wpL_push2 w1 _ rfl _ _ rfl _ _ _ _ rfl h12 _ (0 ^^^ 92) rfl rfl (k + 1) (by omega) (by omega) ?_; intro A3 c3 w3 h3))
          exact ⟨⟨k + 1, _, _, Hk1.out, by simp, by rw [Hid, M1.out, hd1.out], by rw [Hid, M2.out, hd2.out], by simp [l1], by simp [l2], h4⟩, by simp [intOf] <;> omega⟩
      · obtain rfl : k = 64 := by omega
        rw [HT.out] at hd1 hd2
        have l1' : Hid (d1.length = 64) := l1
        have l2' : Hid (d2.length = 64) := l2
        have hbm := HB.out.below (HBW.out.trans (h12.a.2.mono HBW.out.size))
        have hlw := HL.out
        have HBw : Hid (Below w.heap.size w wr) := HBW.out.trans (h12.a.2.mono HBW.out.size)
        clear hlt hk l1 l2
        go_wp2_with (first
          | (go_at_call 14; refine (rsum_any w5 _ _ h5.a.sl (by rw [List.length_append, sha_length, l1'.out]; omega)).mono ?_; rintro e w6 ⟨r6, rfl, hO6⟩)
          | (at_builtin; refine wpL_cat2 w1 _ rfl _ _ rfl _ _ _ _ rfl h4 _ _ rfl hO4.sl 96 (by rw [l1'.out, sha_length]) (by omega) ?_; intro A5 c5 w5 h5)
          | (go_at_call 14; refine (rsum_any w3 _ _ h3.a.sl (by rw [List.length_append, l2'.out]; omega)).mono ?_; rintro e w4 ⟨r4, rfl, hO4⟩; obtain ⟨A4, c4, rfl⟩ := hO4.shape; have h4 := h3.swap.later hO4.2)
          | (at_builtin; refine wpL_cat2 w1 _ rfl _ _ rfl _ _ _ _ rfl h12.swap _ _ rfl hbm (64 + n) (by rw [l2'.out, HN.out]) (by have := HN.out; omega) ?_; intro A3 c3 w3 h3))
        go_ret
        have hb6 := below_then h5.a.2 h5.a.2.size hO6.2
        have hO6' : OB w w6 r6 (sha (d1 ++ sha (d2 ++ m))) := ⟨own_rebase hO6.1 (Nat.le_trans HBW.out.size h5.a.2.size), HBW.out.trans (hb6.mono HBW.out.size)⟩
        rw [hd1.out, hd2.out] at hO6'
        exact ⟨_, rfl, hO6'⟩
  · have hc' : (key.length : Int) ≤ 64 := by omega
    have hk1 : keyed key = key := if_neg hc
    have HV := Lib.hid hv
    obtain ⟨a, cap, rfl, _, _, _, _⟩ := hv.openB
    rw [hk1] at hkl hpi hpo
    generalize padK key = pk at *
    generalize hkk : key = kk at *
    clear hk hk1
    have hkl' : (kk.length : Int) ≤ 64 := by omega
    go_enter Try.func43, Try.ntmps43
    go_wp2_with (first
      | fail)
    have hKK := HV.out
    have hBW : Below w.heap.size w w := Below.refl _ _
    have hal1 : Below w.heap.size w (w.alloc (.cells #[] 5)) := (Below.refl _ w).alloc (Nat.le_refl _) _
    have hO1 : OB w (w.alloc (.cells #[] 5)) (.slice (some ⟨w.heap.size, 0, none⟩) 0 0) [] := by
      refine ⟨own_new w w.heap.size 5 [] (by simp [maxLen]) (Nat.le_refl _), hal1⟩
    have hal2 : Below (w.alloc (.cells #[] 5)).heap.size (w.alloc (.cells #[] 5)) ((w.alloc (.cells #[] 5)).alloc (.cells #[] 5)) := (Below.refl _ _).alloc (Nat.le_refl _) _
    have hO2 : OB w ((w.alloc (.cells #[] 5)).alloc (.cells #[] 5)) (.slice (some ⟨(w.alloc (.cells #[] 5)).heap.size, 0, none⟩) 0 0) [] := by
      refine ⟨own_new _ w.heap.size 5 [] (by simp [maxLen]) hal1.size, below_then hO1.2 hO1.2.size hal2⟩
    have h12 : OB2 w ((w.alloc (.cells #[] 5)).alloc (.cells #[] 5)) (.slice (some ⟨w.heap.size, 0, none⟩) 0 0) (.slice (some ⟨w.heap.size + 1, 0, none⟩) 0 0) [] [] := by
      rw [World.size_alloc] at hO2
      refine ⟨hO1.later hal2, hO2, fun k h1 h2 => ?_⟩
      cases h1; simp [Value.ownBlock] at h2
    have HM := Lib.hid (fun i (h : i < 64) => (⟨map_snoc pk 92 i (by omega), map_snoc pk 54 i (by omega)⟩ : _ ∧ _))
    have HT := Lib.hid (List.take_of_length_le (l := pk) (i := 64) (by omega))
    generalize hW0 : (w.alloc (.cells #[] 5)).alloc (.cells #[] 5) = W0 at *
    have HKC := Lib.hid hKK.openB
    have H12 := Lib.hid h12
    have HBW := Lib.hid hBW
    clear hal1 hal2 hO1 hO2 h12 hKK hBW
    go_loopw [5, 6, 7, 8, 16] (fun o t i _ _ wr => ∃ (k : Nat) (d1 d2 : List UInt8), k ≤ 64 ∧ i = .int .i64 k ∧ Hid (d1 = (pk.take k).map (· ^^^ 92)) ∧ Hid (d2 = (pk.take k).map (· ^^^ 54)) ∧ d1.length = k ∧ d2.length = k ∧ OB2 w wr o t d1 d2) (fun _ _ i _ _ _ => (64 - intOf i).toNat)
    case atStart => exact ⟨0, [], [], by omega, rfl, rfl, rfl, rfl, rfl, H12.out⟩
    case round =>
      obtain ⟨k, d1, d2, hk, rfl, hd1, hd2, l1, l2, h12⟩ := hrel
      obtain ⟨A5, c5, rfl⟩ := h12.a.shape
      obtain ⟨A6, c6, rfl⟩ := h12.b.shape
      rw [l1, l2] at h12 ⊢
      by_cases hlt : k < 64
      · obtain ⟨m1, m2⟩ := HM.out k hlt
        have hlt' : (k : Int) < 64 := by omega
        by_cases hin : k < kk.length
        · have hin' : (k : Int) < kk.length := by omega
          have hpk := hpi.out k hin
          obtain ⟨_, _, e, _, _, _, hrd⟩ := HKC.out
          cases e
          obtain ⟨g, o, rfl, hc0⟩ := hrd.byte k hin
          replace hc0 := (h12.a.2.cell (World.block_lt_of_cell? _ _ hc0)).trans hc0
          rw [← hpk] at hc0
          generalize pk.getD k 0 = x at *
          have M1 := Lib.hid m1
          have M2 := Lib.hid m2
          have Hk1 : Hid (k + 1 ≤ 64) := hlt
          clear hrd hpk m1 m2 hlt hin hk
          go_wp2_with (first
            | (at_builtin; refine wpL_push2 w _ rfl _ _ rfl _ _ _ _ rfl h3.swap _ (x ^^^ 54) rfl rfl (k + 1) (by omega) (by omega) ?_; intro A4 c4 w4 h4; replace h4 := h4.swap)
            | (at_builtin; refine wpL_push2 w _ rfl _ _ rfl _ _ _ _ rfl h12 _ (x ^^^ 92) rfl rfl (k + 1) (by omega) (by omega) ?_; intro A3 c3 w3 h3))
          exact ⟨⟨k + 1, _, _, Hk1.out, by simp, by rw [Hid, M1.out, hd1.out], by rw [Hid, M2.out, hd2.out], by simp [l1], by simp [l2], h4⟩, by simp [intOf] <;> omega⟩
        · have hin' : ¬ ((k : Int) < kk.length) := by omega
          have hpk := hpo.out k (by omega)
          rw [hpk] at m1 m2
          have M1 := Lib.hid m1
          have M2 := Lib.hid m2
          have Hk1 : Hid (k + 1 ≤ 64) := hlt
          clear hpk m1 m2 hlt hin hk
          go_wp2_with (first
            | (at_builtin; refine wpL_push2 w _ rfl _ _ rfl _ _ _ _ rfl h3.swap _ (0 ^^^ 54) rfl rfl (k + 1) (by omega) (by omega) ?_; intro A4 c4 w4 h4; replace h4 := h4.swap)
            | (at_builtin; refine wpL_push2 w _ rfl _ _ rfl _ _ _ _ rfl h12 _ (0 ^^^ 92) rfl rfl (k + 1) (by omega) (by omega) ?_; intro A3 c3 w3 h3))
          exact ⟨⟨k + 1, _, _, Hk1.out, by simp, by rw [Hid, M1.out, hd1.out], by rw [Hid, M2.out, hd2.out], by simp [l1], by simp [l2], h4⟩, by simp [intOf] <;> omega⟩
      · obtain rfl : k = 64 := by omega
        rw [HT.out] at hd1 hd2
        have l1' : Hid (d1.length = 64) := l1
        have l2' : Hid (d2.length = 64) := l2
        have hbm := HB.out.below (HBW.out.trans (h12.a.2.mono HBW.out.size))
        have hlw := HL.out
        have HBw : Hid (Below w.heap.size w wr) := HBW.out.trans (h12.a.2.mono HBW.out.size)
        clear hlt hk l1 l2
        go_wp2_with (first
          | (go_at_call 14; refine (rsum_any w5 _ _ h5.a.sl (by rw [List.length_append, sha_length, l1'.out]; omega)).mono ?_; rintro e w6 ⟨r6, rfl, hO6⟩)
          | (at_builtin; refine wpL_cat2 w _ rfl _ _ rfl _ _ _ _ rfl h4 _ _ rfl hO4.sl 96 (by rw [l1'.out, sha_length]) (by omega) ?_; intro A5 c5 w5 h5)
          | (go_at_call 14; refine (rsum_any w3 _ _ h3.a.sl (by rw [List.length_append, l2'.out]; omega)).mono ?_; rintro e w4 ⟨r4, rfl, hO4⟩; obtain ⟨A4, c4, rfl⟩ := hO4.shape; have h4 := h3.swap.later hO4.2)
          | (at_builtin; refine wpL_cat2 w _ rfl _ _ rfl _ _ _ _ rfl h12.swap _ _ rfl hbm (64 + n) (by rw [l2'.out, HN.out]) (by have := HN.out; omega) ?_; intro A3 c3 w3 h3))
        go_ret
        have hb6 := below_then h5.a.2 h5.a.2.size hO6.2
        have hO6' : OB w w6 r6 (sha (d1 ++ sha (d2 ++ m))) := ⟨own_rebase hO6.1 (Nat.le_trans HBW.out.size h5.a.2.size), HBW.out.trans (hb6.mono HBW.out.size)⟩
        rw [hd1.out, hd2.out] at hO6'
        exact ⟨_, rfl, hO6'⟩
end Go.Proofs.Ytllnocffmlagjaa
