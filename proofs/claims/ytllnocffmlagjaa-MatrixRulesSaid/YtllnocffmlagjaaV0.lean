/- Contract of matrix.Vandermonde. Conditions: 1 to 64 places and columns; the field lies. -/
import Derived.Test.YtllnocffmlagjaaY9
set_option linter.unusedVariables false
set_option linter.unusedSimpArgs false
namespace Go.Proofs.Ytllnocffmlagjaa
open Go.RowKit
attribute [local go_sem] flowAt flowUpon v8_xor

def vrow (c : Nat) (x : UInt8) : List UInt8 := (List.range c).map (pwr x)
def vandL (xs : List UInt8) (c : Nat) : List (List UInt8) := xs.map (vrow c)
theorem vrow_length (c : Nat) (x : UInt8) : (vrow c x).length = c := by simp [vrow]
theorem vrow_at (c : Nat) (x : UInt8) (k : Nat) (h : k < c) : (vrow c x).getD k 0 = pwr x k := by simp [vrow, List.getD_eq_getElem?_getD, h]
theorem vandL_at (xs : List UInt8) (c i : Nat) (h : i < xs.length) : (vandL xs c).getD i [] = vrow c (xs.getD i 0) := by simp [vandL, List.getD_eq_getElem?_getD, h]
theorem vandL_length (xs : List UInt8) (c : Nat) : (vandL xs c).length = xs.length := by simp [vandL]
theorem vandL_rect (xs : List UInt8) (n c : Nat) (hn : xs.length = n) (h1 : 1 ≤ n) (h2 : n ≤ 100) (h3 : 1 ≤ c) (h4 : c ≤ 100) : Rect (vandL xs c) n c :=
  ⟨(vandL_length _ _).trans hn, fun i hi => by rw [vandL_at _ _ _ (by omega), vrow_length], h1, h3, h2, h4⟩
theorem lives_om (w0 : World) (P : Nat) (lv : Value) (vs : List Value) (rows : List (List UInt8)) : Lives (fun w => OM w0 w P lv vs rows) := fun _ _ h hb => h.later hb

set_option maxRecDepth 100000 in
set_option maxHeartbeats 2000000 in
theorem vand_any (w : World) (F n c : Nat) (v : Value) (xs : List UInt8) (hF : FD w F) (hv : Sl w v (bv xs)) (hn : xs.length = n) (h1 : 1 ≤ n) (h64 : n ≤ 64) (h1c : 1 ≤ c) (h64c : c ≤ 64) :
    Calls Try.prog 44 #[.pointer (some ⟨F, 0, none⟩), v, .int .i64 c] w fun e w' => ∃ P lv vs, e = .returned (.tuple #[.pointer (some ⟨P, 0, none⟩), .int .i64 0]) ∧ OM w w' P lv vs (vandL xs c) := by
  obtain ⟨av, cv, rfl, _, _, _, hrv⟩ := hv.openB
  obtain ⟨gv, ov, rfl, _⟩ := hrv.byte 0 (by omega)
  have HV := Lib.hid (fun i h => hrv.byte i h)
  rw [hn] at HV ⊢
  have hn1 : (1 : Int) ≤ n := by omega
  have hn' : (n : Int) ≤ 64 := by omega
  have hc1 : (1 : Int) ≤ c := by omega
  have hc' : (c : Int) ≤ 64 := by omega
  have hd1 : decide ((1 : Int) ≤ n) = true := decide_eq_true hn1
  have hd2 : decide ((n : Int) ≤ 64) = true := decide_eq_true hn'
  have hd3 : decide ((1 : Int) ≤ c) = true := decide_eq_true hc1
  have hd4 : decide ((c : Int) ≤ 64) = true := decide_eq_true hc'
  have HF := Lib.hid hF
  have HL := Lib.hid ((vandL_length xs c).trans hn)
  have HA := Lib.hid (fun i (h : i < n) => vandL_at xs c i (by omega))
  have hbl := blank_any w n c h1 (by omega) h1c (by omega)
  clear hF hv hrv hn
  go_enter Try.func44, Try.ntmps44
  go_wp2_with (first
    | (go_at_call 61; refine hbl.mono ?_; clear hbl; rintro e w3 ⟨Q, G, vs, rfl, hOM, hFu⟩)
    | (go_at_call 60; refine (msize_any _ _).mono ?_; rintro e w' ⟨rfl, rfl⟩))
  clear hd1 hd2 hd3 hd4
  go_loopw [9, 10, 31] (fun _ _ i wr => ∃ (j : Nat) (rws : List (List UInt8)), j ≤ n ∧ Hid (rws = (vandL xs c).take j ++ List.replicate (n - j) (List.replicate c 0)) ∧ rws.length = n ∧ i = .int .i64 j ∧ OM w' wr Q (.slice (some ⟨G, 0, none⟩) n n) vs rws) (fun _ _ i _ => (n - intOf i).toNat)
  case atStart => exact ⟨0, _, by omega, rfl, by simp, rfl, by simpa using hOM⟩
  case round =>
    obtain ⟨j, rws, hj, hrws, hrl, rfl, hM⟩ := hrel
    clear hOM
    by_cases hlt : j < n
    · have hlt' : (j : Int) < n := by omega
      obtain ⟨gx, ox, ex, cx⟩ := HV.out j hlt
      cases ex
      replace cx := (hM.or.below.cell (World.block_lt_of_cell? _ _ cx)).trans cx
      have Hj := Lib.hid (show j + 1 ≤ n from hlt)
      have Hlt := Lib.hid hlt
      have hset := Lib.hid (rows_fill (vandL xs c) (List.replicate c 0) j n hlt HL.out)
      rw [HA.out j hlt, ← hrws.out] at hset
      obtain ⟨X, hX⟩ := hFu.out j hlt
      generalize xs.getD j 0 = x at *
      have HOM := Lib.hid (show ∃ (rq : List (List UInt8)), Hid (rq = rws.set j ((vrow c x).take 0 ++ List.replicate (c - 0) 0)) ∧ OM w' wr Q (.slice (some ⟨G, 0, none⟩) n n) vs rq from ⟨rws, by
        rw [Hid, show (vrow c x).take 0 ++ List.replicate (c - 0) 0 = rws.getD j [] by
          rw [hrws.out, List.getD_eq_getElem?_getD, List.getElem?_append_right (by simp; omega), List.length_take, HL.out, Nat.min_eq_left hj, Nat.sub_self, List.getElem?_replicate, if_pos (by omega)]; rfl]
        rw [List.getD_eq_getElem?_getD, List.getElem?_eq_getElem (by omega)]; simp, hM⟩)
      clear hj hlt hM
      go_wp2
      go_loopw [11, 37] (fun _ i wr => ∃ (q : Nat) (rq : List (List UInt8)), q ≤ c ∧ Hid (rq = rws.set j ((vrow c x).take q ++ List.replicate (c - q) 0)) ∧ i = .int .i64 q ∧ OM w' wr Q (.slice (some ⟨G, 0, none⟩) n n) vs rq) (fun _ i _ => (c - intOf i).toNat)
      case atStart => obtain ⟨rq, h1, h2⟩ := HOM.out; exact ⟨0, rq, by omega, h1, rfl, h2⟩
      case round =>
        obtain ⟨q, rq, hq, hrq, rfl, hM⟩ := hrel
        by_cases hql : q < c
        · have hql' : (q : Int) < c := by omega
          have hjr : j < rws.length := by have := Hlt.out; omega
          have hjz : j < rq.length := by rw [hrq.out, List.length_set]; exact hjr
          have cQ := hM.cell
          obtain ⟨_, hg, cz, fz, _, _⟩ := hM.or.at j hjz
          cases hg
          rw [hX] at cz
          have hrv : rq.getD j [] = (vrow c x).take q ++ List.replicate (c - q) 0 := by rw [hrq.out]; exact getD_set_eq _ _ _ _ hjr
          have hlk : (rq.getD j []).length = c := by rw [hrv, List.length_append, List.length_take, vrow_length, List.length_replicate]; omega
          have HLk := Lib.hid hlk
          have HOM2 := Lib.hid hM
          have HFr := Lib.hid (HF.out.later hM.or.below)
          have HSe := Lib.hid (show rq.set j ((rq.getD j []).set q (pwr x q)) = rws.set j ((vrow c x).take (q + 1) ++ List.replicate (c - (q + 1)) 0) by
            have := set_fill (vrow c x) q c hql (vrow_length _ _)
            rw [vrow_at _ _ _ hql] at this
            rw [hrv, this, hrq.out, List.set_set])
          have HJz := Lib.hid hjz
          have Hq := Lib.hid (show q + 1 ≤ c from hql)
          have Hq255 := Lib.hid (show q < 255 by omega)
          have HX := Lib.hid hX
          clear hM hrv hlk hjz hjr hql hq
          go_wp2
          refine wp_flowC 13 (by kernel_rfl) (by kernel_rfl) (fun w1 => ((w1.cell? ⟨Q, 0, none⟩ = some (.slice (some ⟨G, 0, none⟩) n n) ∧ w1.cell? ⟨G, j, none⟩ = some (.slice (some ⟨X, 0, none⟩) c c)) ∧ FD w1 F) ∧ OM w' w1 Q (.slice (some ⟨G, 0, none⟩) n n) vs rq)
            (lives_and (lives_and (lives_and (lives_cell _ _) (lives_cell _ _)) (lives_fd _)) (lives_om _ _ _ _ _)) ⟨⟨⟨cQ, cz⟩, HFr.out⟩, HOM2.out⟩ ?_
          clear cQ cz fz
          simp only [List.take_succ_cons, List.take_zero, List.drop_succ_cons, List.drop_zero]
          refine' flow_D0 rfl (fun ν w2 hC hD => ?_) ?_; rotate_left
          · clear hC hD; go_simp; exact ⟨Below.refl _ _, rfl⟩
          simp only [Act.put, List.setIfInBounds_toArray, List.set_cons_zero, List.set_cons_succ]
          refine' flow_D0 rfl (fun ν w2 hC hD => ?_) ?_; rotate_left
          · clear hC hD; go_simp; exact ⟨Below.refl _ _, rfl⟩
          simp only [Act.put, List.setIfInBounds_toArray, List.set_cons_zero, List.set_cons_succ]
          refine' flow_D0 rfl (fun ν w2 hC hD => ?_) ?_; rotate_left
          · clear hC hD; go_simp; exact ⟨Below.refl _ _, rfl⟩
          simp only [Act.put, List.setIfInBounds_toArray, List.set_cons_zero, List.set_cons_succ]
          refine' flow_D0 (e := .slice (some ⟨G, 0, none⟩) n n) rfl (fun ν w2 hC hD => ?_) ?_
          · have c1 := hC.1.1.1; clear hC hD; go_simp; exact ⟨Below.refl _ _, rfl⟩
          simp only [Act.put, List.setIfInBounds_toArray, List.set_cons_zero, List.set_cons_succ]
          refine' flow_D0 rfl (fun ν w2 hC hD => ?_) ?_; rotate_left
          · clear hC hD; go_simp; exact ⟨Below.refl _ _, rfl⟩
          simp only [Act.put, List.setIfInBounds_toArray, List.set_cons_zero, List.set_cons_succ]
          refine' flow_D0 rfl (fun ν w2 hC hD => ?_) ?_; rotate_left
          · clear hC hD; go_simp; exact ⟨Below.refl _ _, rfl⟩
          simp only [Act.put, List.setIfInBounds_toArray, List.set_cons_zero, List.set_cons_succ]
          refine' flow_D0 (e := .slice (some ⟨X, 0, none⟩) c c) rfl (fun ν w2 hC hD => ?_) ?_
          · have c1 := hC.1.1.2; clear hC hD; go_simp; exact ⟨Below.refl _ _, rfl⟩
          simp only [Act.put, List.setIfInBounds_toArray, List.set_cons_zero, List.set_cons_succ]
          refine' flow_D0 rfl (fun ν w2 hC hD => ?_) ?_; rotate_left
          · clear hC hD; go_simp; exact ⟨Below.refl _ _, rfl⟩
          simp only [Act.put, List.setIfInBounds_toArray, List.set_cons_zero, List.set_cons_succ]
          refine' flow_D0 rfl (fun ν w2 hC hD => ?_) ?_; rotate_left
          · clear hC hD; go_simp; exact ⟨Below.refl _ _, rfl⟩
          simp only [Act.put, List.setIfInBounds_toArray, List.set_cons_zero, List.set_cons_succ]
          refine' flow_D0 rfl (fun ν w2 hC hD => ?_) ?_; rotate_left
          · clear hC hD; go_simp; exact ⟨Below.refl _ _, rfl⟩
          simp only [Act.put, List.setIfInBounds_toArray, List.set_cons_zero, List.set_cons_succ]
          refine' flow_D0 rfl (fun ν w2 hC hD => ?_) ?_; rotate_left
          · clear hC hD; go_simp; exact ⟨Below.refl _ _, rfl⟩
          simp only [Act.put, List.setIfInBounds_toArray, List.set_cons_zero, List.set_cons_succ]
          refine' flow_D0 (e := .int .u8 (V8 (pwr x q))) rfl (fun ν w2 hC hD => ?_) ?_
          · have hs := (pow_any w2 F hC.1.2 x q Hq255.out).mono (R' := RetIn w2 (Yv (.int .u8 (V8 (pwr x q))))) (fun e w' ⟨he, m, hw⟩ => ⟨_, he, by rw [hw]; exact ext_drewN _ _, rfl⟩)
            clear hC hD; go_simp; exact Below.refl _ _
          simp only [Act.put, List.setIfInBounds_toArray, List.set_cons_zero, List.set_cons_succ]
          refine' flow_D0 rfl (fun ν w2 hC hD => ?_) ?_; rotate_left
          · clear hC hD; go_simp; exact ⟨Below.refl _ _, rfl⟩
          simp only [Act.put, List.setIfInBounds_toArray, List.set_cons_zero, List.set_cons_succ]
          refine flow_nil ?_
          intro ν w2 hC hG
          have hel := hC.2.or.el j HJz.out
          rw [HX.out, HLk.out] at hel
          obtain ⟨ci, fi⟩ := row_at hel q (by have := Hq.out; omega)
          have hput := hC.2.setAt j HJz.out HX.out q (pwr x q)
          rw [HSe.out] at hput
          have HPut := Lib.hid hput
          clear hC hG hput hel
          go_wp2
          go_roundw
          case rel => exact ⟨q + 1, _, Hq.out, rfl, by go_num, HPut.out⟩
          case measure => have := Hq.out; simp [intOf]; omega
        · obtain rfl : q = c := by omega
          have hset2 : Hid (rq = (vandL xs q).take (j + 1) ++ List.replicate (n - (j + 1)) (List.replicate q 0)) := by
            rw [Hid, hrq.out, List.take_of_length_le (by rw [vrow_length]; omega), Nat.sub_self]; simpa using hset.out
          have hrl2 := Lib.hid (show rq.length = n by rw [hrq.out, List.length_set]; exact hrl)
          clear hql hq
          go_wp2
          go_roundw
          case rel => exact ⟨j + 1, _, Hj.out, hset2.out, hrl2.out, by go_num, hM⟩
          case measure => have := Hj.out; simp [intOf]; omega
    · obtain rfl : j = n := by omega
      have hz : Hid (rws = vandL xs c) := by rw [Hid, hrws.out, Nat.sub_self, List.take_of_length_le (by rw [HL.out]; omega)]; simp
      rw [hz.out] at hM
      clear hlt hj
      go_wp2
      go_ret2
      exact ⟨_, _, _, rfl, hM⟩
end Go.Proofs.Ytllnocffmlagjaa
