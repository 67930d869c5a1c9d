/- Contracts of matrix.Size, Row, Times. Conditions: a matrix lies, of 1 to 100 rows of 1 to 100. -/
import Derived.Test.YtllnocffmlagjaaY3
set_option linter.unusedVariables false
set_option linter.unusedSimpArgs false
namespace Go.Proofs.Ytllnocffmlagjaa
open Go.RowKit
attribute [local go_sem] flowAt flowUpon v8_xor

/-- So many rows, so long. -/
structure Rect (rows : List (List UInt8)) (n c : Nat) : Prop where
  len : rows.length = n
  col : ∀ i, i < n → (rows.getD i []).length = c
  n1 : 1 ≤ n
  c1 : 1 ≤ c
  n100 : n ≤ 100
  c100 : c ≤ 100
/-- What v points to is a row of bytes. -/
def T5 (w : World) (v : Value) : Prop := ∀ g o n cap, v = .slice (some ⟨g, o, none⟩) n cap → ∃ cs m, w.heap[g]? = some (.cells cs 5 m)
theorem T5.below {w w' : World} {v : Value} (h : T5 w v) (hb : Below w.heap.size w w') : T5 w' v := fun g o n cap e => by
  obtain ⟨cs, m, hc⟩ := h g o n cap e
  exact ⟨cs, m, (hb.block g (Array.getElem?_eq_some_iff.1 hc).1).trans hc⟩
theorem T5.own {w : World} {b n : Nat} {v : Value} {xs : List Value} (h : w.ownsRow b 5 1 v n xs) : T5 w v := fun g o n' cap e => by
  rcases h.2 with ⟨h1, _⟩ | ⟨g', cap', cur, h1, _, hg, _⟩
  · rw [h1] at e; cases e
  · rw [h1] at e; cases e; exact ⟨cur, (0, 0), hg⟩
/-- Slices of bytes, all in rows of bytes. -/
def PartsT (w : World) (v : Value) (pss : List (List UInt8)) : Prop :=
  ∃ vs, Sl w v vs ∧ vs.length = pss.length ∧ ∀ i, i < pss.length → Sl w (vs.getD i undef) (bv (pss.getD i [])) ∧ T5 w (vs.getD i undef)
theorem PartsT.parts {w : World} {v : Value} {pss : List (List UInt8)} (h : PartsT w v pss) : Parts w v pss := by
  obtain ⟨vs, h1, h2, h3⟩ := h
  exact ⟨vs, h1, h2, fun i hi => (h3 i hi).1⟩
theorem PartsT.below {w w' : World} {v : Value} {pss : List (List UInt8)} (h : PartsT w v pss) (hb : Below w.heap.size w w') : PartsT w' v pss := by
  obtain ⟨vs, h1, h2, h3⟩ := h
  exact ⟨vs, h1.below hb, h2, fun i hi => ⟨(h3 i hi).1.below hb, (h3 i hi).2.below hb⟩⟩
theorem OR.partsT {w0 w : World} {lv : Value} {vs : List Value} {rows : List (List UInt8)} (h : OR w0 w lv vs rows) : PartsT w lv rows :=
  ⟨vs, Sl.of_own h.row, h.len, fun i hi => ⟨h.sl i hi, T5.own (h.el i hi)⟩⟩
/-- A matrix lies at block P. -/
structure MX (w : World) (P : Nat) (rows : List (List UInt8)) (n c : Nat) : Prop where
  cell : ∃ lv, w.cell? ⟨P, 0, none⟩ = some lv ∧ PartsT w lv rows
  rect : Rect rows n c
theorem MX.below {w w' : World} {P : Nat} {rows : List (List UInt8)} {n c : Nat} (h : MX w P rows n c) (hb : Below w.heap.size w w') : MX w' P rows n c := by
  obtain ⟨⟨lv, h1, h2⟩, h3⟩ := h
  exact ⟨⟨lv, (hb.cell (World.block_lt_of_cell? _ _ h1)).trans h1, h2.below hb⟩, h3⟩
theorem lives_mx (P : Nat) (rows : List (List UInt8)) (n c : Nat) : Lives (fun w => MX w P rows n c) := fun _ _ h hb => h.below hb
theorem OM.mx {w0 w : World} {P : Nat} {lv : Value} {vs : List Value} {rows : List (List UInt8)} (h : OM w0 w P lv vs rows) {n c : Nat} (hr : Rect rows n c) : MX w P rows n c := ⟨⟨lv, h.cell, h.or.partsT⟩, hr⟩
/-- Opened: the outer slice, and each row. -/
theorem MX.opened {w : World} {P : Nat} {rows : List (List UInt8)} {n c : Nat} (h : MX w P rows n c) :
    ∃ b o cap, w.cell? ⟨P, 0, none⟩ = some (.slice (some ⟨b, o, none⟩) n cap) ∧ n ≤ cap ∧ cap ≤ maxLen ∧ Parts w (.slice (some ⟨b, o, none⟩) n cap) rows ∧
      ∀ i, i < n → ∃ gb ob kk, w.cell? ⟨b, o + i, none⟩ = some (.slice (some ⟨gb, ob, none⟩) c kk) ∧ Sl w (.slice (some ⟨gb, ob, none⟩) c kk) (bv (rows.getD i [])) ∧ Rd w (some ⟨gb, ob, none⟩) (bv (rows.getD i [])) := by
  obtain ⟨⟨lv, hc, hp'⟩, hr⟩ := h
  have hp := hp'.parts
  obtain ⟨a, cap, rfl, hl1, hl2, hn⟩ := hp.shape
  rw [hr.len] at hc hl1 hn hp
  obtain ⟨b, o, rfl⟩ := hn hr.n1
  refine ⟨b, o, cap, hc, hl1, hl2, hp, fun i hi => ?_⟩
  obtain ⟨a', cap', e, hcell⟩ := hp.opened
  cases e
  obtain ⟨b', o', u, e, cu, su⟩ := hcell i (by rw [hr.len]; exact hi)
  cases e
  have hci := hr.col i hi
  obtain ⟨ak, kk, rfl, _, _, _, rk⟩ := su.openB
  obtain ⟨gb, ob, rfl, _⟩ := rk.byte 0 (by rw [hci]; exact hr.c1)
  rw [hci] at cu su
  exact ⟨gb, ob, kk, cu, su, rk⟩

set_option maxHeartbeats 400000 in
theorem msz_any (w : World) (P n c : Nat) (rows : List (List UInt8)) (h : MX w P rows n c) :
    Calls Try.prog 62 #[.pointer (some ⟨P, 0, none⟩)] w fun e w' => e = .returned (.tuple #[.int .i64 n, .int .i64 c]) ∧ ∃ m, w' = w.drewN m := by
  have h1 := h.rect.n1
  obtain ⟨b, o, cap, cP, _, _, _, hcell⟩ := h.opened
  obtain ⟨gb, ob, kk, c0, _, _⟩ := hcell 0 h1
  rw [Nat.add_zero] at c0
  have n1 : (0 : Int) < n := by omega
  clear h hcell
  go_enter Try.func62, Try.ntmps62
  go_wp2
  go_quiet (fail)
  go_wp2
  go_ret2
  exact ⟨rfl, nq, rfl⟩

set_option maxHeartbeats 400000 in
theorem mrow_any (w : World) (P n c : Nat) (rows : List (List UInt8)) (h : MX w P rows n c) (i : Nat) (hi : i < n) :
    Calls Try.prog 58 #[.pointer (some ⟨P, 0, none⟩), .int .i64 i] w fun e w' => ∃ r, e = .returned r ∧ OB w w' r (rows.getD i []) := by
  have hr := h.rect
  have hci := hr.col i hi
  obtain ⟨b, o, cap, cP, _, _, _, hcell⟩ := h.opened
  obtain ⟨gb, ob, kk, ci, si, _⟩ := hcell i hi
  have hi' : (i : Int) < n := by omega
  have hc := clone_ob w w (Below.refl _ _) _ _ si (by have := hr.c100; omega)
  clear h hcell hr
  go_enter Try.func58, Try.ntmps58
  go_wp2_with (go_at_call 78; refine hc.mono ?_; rintro e w' ⟨r, rfl, hB, hO⟩)
  go_ret
  exact ⟨r, rfl, hO⟩

theorem OB.bel {w0 wr : World} {v : Value} {bs : List UInt8} (h : OB w0 wr v bs) : Below w0.heap.size w0 wr := h.2
/-- The sum of f 0 .. f (n-1). -/
def S : Nat → (Nat → UInt8) → UInt8
  | 0, _ => 0
  | n + 1, f => S n f ^^^ f n
def dotN (r v : List UInt8) (q : Nat) : UInt8 := S q fun k => gm (r.getD k 0) (v.getD k 0)
def timesL (rows : List (List UInt8)) (v : List UInt8) (c : Nat) : List UInt8 := rows.map fun r => dotN r v c
theorem timesL_length (rows : List (List UInt8)) (v : List UInt8) (c : Nat) : (timesL rows v c).length = rows.length := by simp [timesL]
theorem timesL_at (rows : List (List UInt8)) (v : List UInt8) (c i : Nat) (h : i < rows.length) : (timesL rows v c).getD i 0 = dotN (rows.getD i []) v c := by
  simp [timesL, List.getD_eq_getElem?_getD, h]
theorem lives_fd (F : Nat) : Lives (fun w => FD w F) := fun _ _ h hb => h.later hb

set_option maxRecDepth 100000 in
set_option maxHeartbeats 1000000 in
theorem mtimes_any (w : World) (F P n c : Nat) (rows : List (List UInt8)) (v : Value) (vs : List UInt8) (hF : FD w F) (h : MX w P rows n c) (hv : Sl w v (bv vs)) (hl : vs.length = c) :
    Calls Try.prog 20 #[.pointer (some ⟨P, 0, none⟩), .pointer (some ⟨F, 0, none⟩), v] w fun e w' => ∃ r, e = .returned (.tuple #[r, .int .i64 0]) ∧ OB w w' r (timesL rows vs c) := by
  have hr := h.rect
  have h1 := hr.n1
  have hsz := msz_any w P n c rows h
  obtain ⟨b, o, cap, cP, _, _, _, hcell⟩ := h.opened
  obtain ⟨av, cv, rfl, _, _, _, hrv⟩ := hv.openB
  rw [hl]
  have HC := Lib.hid hcell
  have HV := Lib.hid (fun i h => hrv.byte i h)
  rw [hl] at HV
  have HR := Lib.hid hr
  have hn' : (n : Int) ≤ 100 := by have := hr.n100; omega
  have hc' : (c : Int) ≤ 100 := by have := hr.c100; omega
  have HTl := Lib.hid ((timesL_length rows vs c).trans hr.len)
  have HTa := Lib.hid (fun i (hi : i < n) => timesL_at rows vs c i (by rw [hr.len]; exact hi))
  have HF := Lib.hid hF
  clear h hcell hv hrv hr hF hl
  go_enter Try.func20, Try.ntmps20
  go_wp2_with (first
    | (go_at_call 62; refine hsz.mono ?_; rintro e w' ⟨rfl, m, hw'⟩; have hB1 : Below w.heap.size w w' := by rw [hw']; exact below_drewN (Below.refl _ w) m
       clear hw'; replace cP := (hB1.cell (World.block_lt_of_cell? _ _ cP)).trans cP)
    | (with_reducible refine wpL_make _ rfl _ _ 22 5 _ 1 rfl Try.underlying22 inf5 rfl _ n (by omega) rfl rfl (by omega) (by omega) ?_; (intro w2 hw2 hb2; have hO := OB.zeros hw2 hB1 hb2; replace cP := (hb2.cell (World.block_lt_of_cell? _ _ cP)).trans cP)))
  clear hw2 hb2 hsz hB1
  generalize w'.heap.size = G at *
  go_loopw [11, 12, 43] (fun _ _ i wr => ∃ (k : Nat) (zs : List UInt8), k ≤ n ∧ Hid (zs = (timesL rows vs c).take k ++ List.replicate (n - k) 0) ∧ zs.length = n ∧ i = .int .i64 k ∧ OB w wr (.slice (some ⟨G, 0, none⟩) n n) zs) (fun _ _ i _ => (n - intOf i).toNat)
  case atStart => exact ⟨0, _, by omega, rfl, by simp, rfl, by simpa using hO⟩
  case round =>
    obtain ⟨k, zs, hk, hzs, hzl, rfl, hOB⟩ := hrel
    clear hO cP
    by_cases hlt : k < n
    · have hlt' : (k : Int) < n := by omega
      obtain ⟨gb, ob, kk, ck, _, rk⟩ := HC.out k hlt
      replace ck := (hOB.2.cell (World.block_lt_of_cell? _ _ ck)).trans ck
      have HX := Lib.hid (fun i h => rk.byte i h)
      rw [HR.out.col k hlt] at HX
      have Hk := Lib.hid (show k + 1 ≤ n from hlt)
      have Hlt := Lib.hid hlt
      have hset := Lib.hid (set_fill (timesL rows vs c) k n hlt HTl.out)
      rw [HTa.out k hlt] at hset
      generalize hrr : rows.getD k [] = rr at *
      have HOB := Lib.hid (show ∃ zq : List UInt8, Hid (zq = zs.set k (dotN rr vs 0)) ∧ OB w wr (.slice (some ⟨G, 0, none⟩) n n) zq from ⟨zs, by
        rw [Hid, show dotN rr vs 0 = zs.getD k 0 by
          rw [hzs.out, List.getD_eq_getElem?_getD, List.getElem?_append_right (by simp; omega), List.length_take, HTl.out, Nat.min_eq_left hk, Nat.sub_self, List.getElem?_replicate, if_pos (by omega)]; rfl]
        rw [List.getD_eq_getElem?_getD, List.getElem?_eq_getElem (by omega)]; simp, hOB⟩)
      clear hrr rk hk hlt hOB
      go_wp2
      go_loopw [13, 14, 50] (fun _ _ i wr => ∃ (q : Nat) (zq : List UInt8), q ≤ c ∧ Hid (zq = zs.set k (dotN rr vs q)) ∧ i = .int .i64 q ∧ OB w wr (.slice (some ⟨G, 0, none⟩) n n) zq) (fun _ _ i _ => (c - intOf i).toNat)
      case atStart => obtain ⟨zq, h1, h2⟩ := HOB.out; exact ⟨0, zq, by omega, h1, rfl, h2⟩
      case round =>
        obtain ⟨q, zq, hq, hzq, rfl, hOB⟩ := hrel
        by_cases hql : q < c
        · have hql' : (q : Int) < c := by omega
          obtain ⟨gx, ox, ex, cx⟩ := HX.out q hql
          cases ex
          obtain ⟨gy, oy, rfl, cy⟩ := HV.out q hql
          replace cx := (hOB.2.cell (World.block_lt_of_cell? _ _ cx)).trans cx
          replace cy := (hOB.2.cell (World.block_lt_of_cell? _ _ cy)).trans cy
          have hkz : k < zs.length := by have := Hlt.out; omega
          have cz := hOB.cellB k (by rw [hzq.out, List.length_set]; exact hkz)
          have hzv : zq.getD k 0 = dotN rr vs q := by rw [hzq.out]; exact getD_set_eq _ _ _ _ hkz
          rw [hzv] at cz
          have HOB := Lib.hid hOB
          have HFr := Lib.hid (HF.out.later hOB.2)
          have HSe := Lib.hid (show zq.set k (dotN rr vs q ^^^ gm (rr.getD q 0) (vs.getD q 0)) = zs.set k (dotN rr vs (q + 1)) by rw [hzq.out, List.set_set]; rfl)
          have Hq := Lib.hid (show q + 1 ≤ c from hql)
          generalize vs.getD q 0 = y at *
          generalize rr.getD q 0 = z at *
          generalize dotN rr vs q = x at *
          clear hOB hzv hkz hql hq
          go_wp2
          refine wp_flowC 13 (by kernel_rfl) (by kernel_rfl) (fun w' => ((w'.cell? ⟨G, k, none⟩ = some (.int .u8 (V8 x)) ∧ w'.cell? ⟨gy, oy + q, none⟩ = some (.int .u8 (V8 y))) ∧ FD w' F) ∧ OB w w' (.slice (some ⟨G, 0, none⟩) n n) zq)
            (lives_and (lives_and (lives_and (lives_cell _ _) (lives_cell _ _)) (lives_fd _)) (lives_ob _ _ _)) ⟨⟨⟨cz, cy⟩, HFr.out⟩, HOB.out⟩ ?_
          simp only [List.take_succ_cons, List.take_zero, List.drop_succ_cons, List.drop_zero]
          refine' flow_D0 rfl (fun ν w2 hC hD => ?_) ?_; rotate_left
          · clear hC hD; go_simp; exact ⟨Below.refl _ _, rfl⟩
          simp only [Act.put, List.setIfInBounds_toArray, List.set_cons_zero, List.set_cons_succ]
          refine' flow_D0 rfl (fun ν w2 hC hD => ?_) ?_; rotate_left
          · clear hC hD; go_simp; exact ⟨Below.refl _ _, rfl⟩
          simp only [Act.put, List.setIfInBounds_toArray, List.set_cons_zero, List.set_cons_succ]
          refine' flow_D0 rfl (fun ν w2 hC hD => ?_) ?_; rotate_left
          · clear hC hD; go_simp; exact ⟨Below.refl _ _, rfl⟩
          simp only [Act.put, List.setIfInBounds_toArray, List.set_cons_zero, List.set_cons_succ]
          refine' flow_D0 (e := .int .u8 (V8 x)) rfl (fun ν w2 hC hD => ?_) ?_
          · have c1 := hC.1.1.1; clear hC hD; go_simp; exact ⟨Below.refl _ _, rfl⟩
          simp only [Act.put, List.setIfInBounds_toArray, List.set_cons_zero, List.set_cons_succ]
          refine' flow_D0 rfl (fun ν w2 hC hD => ?_) ?_; rotate_left
          · clear hC hD; go_simp; exact ⟨Below.refl _ _, rfl⟩
          simp only [Act.put, List.setIfInBounds_toArray, List.set_cons_zero, List.set_cons_succ]
          refine' flow_D0 rfl (fun ν w2 hC hD => ?_) ?_; rotate_left
          · clear hC hD; go_simp; exact ⟨Below.refl _ _, rfl⟩
          simp only [Act.put, List.setIfInBounds_toArray, List.set_cons_zero, List.set_cons_succ]
          refine' flow_D0 rfl (fun ν w2 hC hD => ?_) ?_; rotate_left
          · clear hC hD; go_simp; exact ⟨Below.refl _ _, rfl⟩
          simp only [Act.put, List.setIfInBounds_toArray, List.set_cons_zero, List.set_cons_succ]
          refine' flow_D0 rfl (fun ν w2 hC hD => ?_) ?_; rotate_left
          · clear hC hD; go_simp; exact ⟨Below.refl _ _, rfl⟩
          simp only [Act.put, List.setIfInBounds_toArray, List.set_cons_zero, List.set_cons_succ]
          refine' flow_D0 rfl (fun ν w2 hC hD => ?_) ?_; rotate_left
          · clear hC hD; go_simp; exact ⟨Below.refl _ _, rfl⟩
          simp only [Act.put, List.setIfInBounds_toArray, List.set_cons_zero, List.set_cons_succ]
          refine' flow_D0 (e := .int .u8 (V8 y)) rfl (fun ν w2 hC hD => ?_) ?_
          · have c1 := hC.1.1.2; clear hC hD; go_simp; exact ⟨Below.refl _ _, rfl⟩
          simp only [Act.put, List.setIfInBounds_toArray, List.set_cons_zero, List.set_cons_succ]
          refine' flow_D0 (e := .int .u8 (V8 (gm z y))) rfl (fun ν w2 hC hD => ?_) ?_
          · have hs := (mul_any w2 F hC.1.2 z y).mono (R' := RetIn w2 (Yv (.int .u8 (V8 (gm z y))))) (fun e w' ⟨he, m, hw⟩ => ⟨_, he, by rw [hw]; exact ext_drewN _ _, rfl⟩)
            clear hC hD; go_simp; exact Below.refl _ _
          simp only [Act.put, List.setIfInBounds_toArray, List.set_cons_zero, List.set_cons_succ]
          refine' flow_D0 rfl (fun ν w2 hC hD => ?_) ?_; rotate_left
          · clear hC hD; go_simp; exact ⟨Below.refl _ _, rfl⟩
          simp only [Act.put, List.setIfInBounds_toArray, List.set_cons_zero, List.set_cons_succ]
          refine' flow_D0 rfl (fun ν w2 hC hD => ?_) ?_; rotate_left
          · clear hC hD; go_simp; exact ⟨Below.refl _ _, rfl⟩
          simp only [Act.put, List.setIfInBounds_toArray, List.set_cons_zero, List.set_cons_succ]
          refine flow_nil ?_
          intro ν w2 hC hG
          have c1 := hC.1.1.1
          have f1 := hC.2.frozenB k
          have HSt := Lib.hid (hC.2.set k (x ^^^ gm z y))
          rw [HSe.out] at HSt
          clear hC hG
          go_wp2
          go_roundw
          case rel => exact ⟨q + 1, _, Hq.out, rfl, by go_num, HSt.out⟩
          case measure => have := Hq.out; simp [intOf]; omega
        · obtain rfl : q = c := by omega
          have hset2 : Hid (zq = (timesL rows vs q).take (k + 1) ++ List.replicate (n - (k + 1)) 0) := by rw [Hid, hzq.out, hzs.out]; exact hset.out
          have hzl2 := Lib.hid (show zq.length = n by rw [hzq.out, List.length_set]; exact hzl)
          clear hql hq
          go_wp2
          go_roundw
          case rel => exact ⟨k + 1, _, Hk.out, hset2.out, hzl2.out, by go_num, hOB⟩
          case measure => have := Hk.out; simp [intOf]; omega
    · obtain rfl : k = n := by omega
      have hz : Hid (zs = timesL rows vs c) := by rw [Hid, hzs.out, Nat.sub_self, List.take_of_length_le (by rw [HTl.out]; omega)]; simp
      rw [hz.out] at hOB
      clear hlt hk
      go_wp2
      go_ret2
      exact ⟨_, rfl, hOB⟩
end Go.Proofs.Ytllnocffmlagjaa
