/- Contract of matrix.Mul. Conditions: the matrices lie, and fit. -/
import Derived.Test.YtllnocffmlagjaaY4
set_option linter.unusedVariables false
set_option linter.unusedSimpArgs false
namespace Go.Proofs.Ytllnocffmlagjaa
open Go.RowKit
attribute [local go_sem] flowAt flowUpon v8_xor

theorem ret_ob' {wr w2 : World} {f : FuncId} {args : Array Value} {bs : List UInt8} (hb : Below wr.heap.size wr w2) (h : Calls Try.prog f args w2 fun e w' => ∃ r, e = .returned r ∧ OB w2 w' r bs) :
    Calls Try.prog f args w2 (RetIn w2 fun u w' => OB wr w' u bs) :=
  h.mono fun e w' ⟨r, he, hO⟩ => ⟨r, he, hO.2, own_rebase hO.1 hb.size, below_then hb hb.size hO.2⟩

theorem OR.rebase {w0 w1 w : World} {lv : Value} {vs : List Value} {rows : List (List UInt8)} (hB : Below w0.heap.size w0 w1) (h : OR w1 w lv vs rows) : OR w0 w lv vs rows :=
  ⟨own_rebase h.row hB.size, h.len, fun i hi => own_rebase (h.el i hi) hB.size, h.ne, below_then hB hB.size h.below⟩
theorem OM.rebase {w0 w1 w : World} {P : Nat} {lv : Value} {vs : List Value} {rows : List (List UInt8)} (hB : Below w0.heap.size w0 w1) (h : OM w1 w P lv vs rows) : OM w0 w P lv vs rows :=
  ⟨h.ptr, Nat.le_trans hB.size h.base, h.or.rebase hB⟩
/-- A row times rows, by the first q of them. -/
def mulRow (a : List UInt8) (B : List (List UInt8)) (c : Nat) : Nat → List UInt8
  | 0 => List.replicate c 0
  | q + 1 => rowAdd (mulRow a B c q) (a.getD q 0) (B.getD q [])
def mulL (A B : List (List UInt8)) (k c : Nat) : List (List UInt8) := A.map fun a => mulRow a B c k
theorem mulL_length (A B : List (List UInt8)) (k c : Nat) : (mulL A B k c).length = A.length := by simp [mulL]
theorem mulL_at (A B : List (List UInt8)) (k c i : Nat) (h : i < A.length) : (mulL A B k c).getD i [] = mulRow (A.getD i []) B c k := by
  simp [mulL, List.getD_eq_getElem?_getD, h]
theorem mulRow_length (a : List UInt8) (B : List (List UInt8)) (c k : Nat) (hB : ∀ i, i < k → (B.getD i []).length = c) (q : Nat) (hq : q ≤ k) : (mulRow a B c q).length = c := by
  induction q with
  | zero => simp [mulRow]
  | succ q ih => have h1 := ih (by omega); unfold mulRow; rw [rowAdd_length _ _ _ (by rw [h1, hB q (by omega)]), h1]
theorem mulL_rect {A B : List (List UInt8)} {n k c : Nat} (hA : Rect A n k) (hB : Rect B k c) : Rect (mulL A B k c) n c :=
  ⟨(mulL_length A B k c).trans hA.len, fun i hi => by rw [mulL_at _ _ _ _ _ (by rw [hA.len]; exact hi)]; exact mulRow_length _ _ _ k hB.col k (Nat.le_refl _), hA.n1, hB.c1, hA.n100, hB.c100⟩

set_option maxRecDepth 100000 in
set_option maxHeartbeats 2000000 in
theorem mmul_any (w : World) (F P P2 n k c : Nat) (A B : List (List UInt8)) (hF : FD w F) (hA : MX w P A n k) (hB : MX w P2 B k c) :
    Calls Try.prog 19 #[.pointer (some ⟨P, 0, none⟩), .pointer (some ⟨F, 0, none⟩), .pointer (some ⟨P2, 0, none⟩)] w fun e w' => ∃ Q lv vs, e = .returned (.tuple #[.pointer (some ⟨Q, 0, none⟩), .int .i64 0]) ∧ OM w w' Q lv vs (mulL A B k c) := by
  have hrA := hA.rect
  have hrB := hB.rect
  have h1 := hrA.n1
  have hsA := msz_any w P n k A hA
  have hsB := fun w' (hb : Below w.heap.size w w') => msz_any w' P2 k c B (hB.below hb)
  obtain ⟨b, o, cap, cP, _, _, _, hcell⟩ := hA.opened
  obtain ⟨b2, o2, cap2, cP2, _, _, _, hcell2⟩ := hB.opened
  have HC := Lib.hid hcell
  have HC2 := Lib.hid hcell2
  have HCP := Lib.hid cP
  have HCP2 := Lib.hid cP2
  have HR := Lib.hid hrA
  have HR2 := Lib.hid hrB
  have hn' : (n : Int) ≤ 100 := by have := hrA.n100; omega
  have hk' : (k : Int) ≤ 100 := by have := hrA.c100; omega
  have hc' : (c : Int) ≤ 100 := by have := hrB.c100; omega
  have HMl := Lib.hid ((mulL_length A B k c).trans hrA.len)
  have HMa := Lib.hid (fun i (hi : i < n) => mulL_at A B k c i (by rw [hrA.len]; exact hi))
  have HRl := Lib.hid (fun a q (hq : q ≤ k) => mulRow_length a B c k hrB.col q hq)
  have hbl := fun w' => blank_any w' n c h1 hrA.n100 hrB.c1 hrB.c100
  have HF := Lib.hid hF
  clear hA hB hcell hcell2 hrA hrB hF cP2
  go_enter Try.func19, Try.ntmps19
  go_wp2_with (first
    | (go_at_call 62; refine (hsB w1 hB1).mono ?_; rintro e w2 ⟨rfl, m, hw'⟩; have hB2 : Below w.heap.size w w2 := by rw [hw']; exact below_drewN hB1 m
       clear hw'; replace cP := (hB2.cell (World.block_lt_of_cell? _ _ HCP.out)).trans HCP.out)
    | (go_at_call 62; refine hsA.mono ?_; rintro e w1 ⟨rfl, m, hw'⟩; have hB1 : Below w.heap.size w w1 := by rw [hw']; exact below_drewN (Below.refl _ w) m
       clear hw'; replace cP := (hB1.cell (World.block_lt_of_cell? _ _ cP)).trans cP)
    | (go_at_call 61; refine (hbl w2).mono ?_; rintro e w3 ⟨Q, G, vs, rfl, hOM, _⟩; replace cP := (hOM.or.below.cell (World.block_lt_of_cell? _ _ cP)).trans cP))
  replace hOM := hOM.rebase hB2
  clear hB1 hB2 hsA hsB hbl
  go_loopw [13, 14, 54] (fun _ _ i wr => ∃ (j : Nat) (vs : List Value) (rws : List (List UInt8)), j ≤ n ∧ Hid (rws = (mulL A B k c).take j ++ List.replicate (n - j) (List.replicate c 0)) ∧ rws.length = n ∧ i = .int .i64 j ∧ OM w wr Q (.slice (some ⟨G, 0, none⟩) n n) vs rws) (fun _ _ i _ => (n - intOf i).toNat)
  case atStart => exact ⟨0, _, _, by omega, rfl, by simp, rfl, by simpa using hOM⟩
  case round =>
    obtain ⟨j, vs, rws, hj, hrws, hrl, rfl, hM⟩ := hrel
    clear hOM cP
    by_cases hlt : j < n
    · have hlt' : (j : Int) < n := by omega
      obtain ⟨ga, oa, ka, ck, _, rk⟩ := HC.out j hlt
      replace ck := (hM.or.below.cell (World.block_lt_of_cell? _ _ ck)).trans ck
      have HX := Lib.hid (fun i h => rk.byte i h)
      rw [HR.out.col j hlt] at HX
      have Hj := Lib.hid (show j + 1 ≤ n from hlt)
      have Hlt := Lib.hid hlt
      have hset := Lib.hid (rows_fill (mulL A B k c) (List.replicate c 0) j n hlt HMl.out)
      rw [HMa.out j hlt, ← hrws.out] at hset
      have HRlj := Lib.hid (HRl.out (A.getD j []))
      generalize A.getD j [] = aa at *
      have HOM := Lib.hid (show ∃ (vq : List Value) (rq : List (List UInt8)), Hid (rq = rws.set j (mulRow aa B c 0)) ∧ OM w wr Q (.slice (some ⟨G, 0, none⟩) n n) vq rq from ⟨vs, rws, by
        rw [Hid, show mulRow aa B c 0 = rws.getD j [] by
          rw [hrws.out, List.getD_eq_getElem?_getD, List.getElem?_append_right (by simp; omega), List.length_take, HMl.out, Nat.min_eq_left hj, Nat.sub_self, List.getElem?_replicate, if_pos (by omega)]; rfl]
        rw [List.getD_eq_getElem?_getD, List.getElem?_eq_getElem (by omega)]; simp, hM⟩)
      clear rk hj hlt hM
      go_wp2
      go_loopw [15, 16, 61] (fun _ _ i wr => ∃ (q : Nat) (vq : List Value) (rq : List (List UInt8)), q ≤ k ∧ Hid (rq = rws.set j (mulRow aa B c q)) ∧ i = .int .i64 q ∧ OM w wr Q (.slice (some ⟨G, 0, none⟩) n n) vq rq) (fun _ _ i _ => (k - intOf i).toNat)
      case atStart => obtain ⟨vq, rq, h1, h2⟩ := HOM.out; exact ⟨0, vq, rq, by omega, h1, rfl, h2⟩
      case round =>
        obtain ⟨q, vq, rq, hq, hrq, rfl, hM⟩ := hrel
        by_cases hql : q < k
        · have hql' : (q : Int) < k := by omega
          obtain ⟨gx, ox, ex, cx⟩ := HX.out q hql
          cases ex
          obtain ⟨gy, oy, ky, cy, sy, _⟩ := HC2.out q hql
          have cP2 := (hM.or.below.cell (World.block_lt_of_cell? _ _ HCP2.out)).trans HCP2.out
          replace cx := (hM.or.below.cell (World.block_lt_of_cell? _ _ cx)).trans cx
          replace cy := (hM.or.below.cell (World.block_lt_of_cell? _ _ cy)).trans cy
          replace sy := sy.below hM.or.below
          have hjr : j < rws.length := by have := Hlt.out; omega
          have hjz : j < rq.length := by rw [hrq.out, List.length_set]; exact hjr
          have cQ := hM.cell
          obtain ⟨_, hg, cz, fz, _, _⟩ := hM.or.at j hjz
          cases hg
          have sz := hM.or.sl j hjz
          have hzv : rq.getD j [] = mulRow aa B c q := by rw [hrq.out]; exact getD_set_eq _ _ _ _ hjr
          rw [hzv] at sz
          have HOM2 := Lib.hid hM
          have HFr := Lib.hid (HF.out.later hM.or.below)
          have HSe := Lib.hid (show rq.set j (rowAdd (mulRow aa B c q) (aa.getD q 0) (B.getD q [])) = rws.set j (mulRow aa B c (q + 1)) by rw [hrq.out, List.set_set]; rfl)
          have HJz := Lib.hid hjz
          have Hq := Lib.hid (show q + 1 ≤ k from hql)
          have HL1 := Lib.hid (HRlj.out q hq)
          have HL2 := Lib.hid (HR2.out.col q hql)
          generalize B.getD q [] = y at *
          generalize aa.getD q 0 = z at *
          generalize mulRow aa B c q = x at *
          generalize hu : vq.getD j undef = u at *
          clear hM hzv hjz hjr hql hq hu
          go_wp2
          refine wp_flowC 23 (by kernel_rfl) (by kernel_rfl) (fun w' => ((((((w'.cell? ⟨Q, 0, none⟩ = some (.slice (some ⟨G, 0, none⟩) n n) ∧ w'.cell? ⟨G, j, none⟩ = some u) ∧ Sl w' u (bv x)) ∧ w'.cell? ⟨P2, 0, none⟩ = some (.slice (some ⟨b2, o2, none⟩) k cap2)) ∧ w'.cell? ⟨b2, o2 + q, none⟩ = some (.slice (some ⟨gy, oy, none⟩) c ky)) ∧ Sl w' (.slice (some ⟨gy, oy, none⟩) c ky) (bv y)) ∧ FD w' F) ∧ Below wr.heap.size wr w')
            (lives_and (lives_and (lives_and (lives_and (lives_and (lives_and (lives_and (lives_cell _ _) (lives_cell _ _)) (lives_sl _ _)) (lives_cell _ _)) (lives_cell _ _)) (lives_sl _ _)) (lives_fd _)) (lives_below _)) ⟨⟨⟨⟨⟨⟨⟨cQ, cz⟩, sz⟩, cP2⟩, cy⟩, sy⟩, HFr.out⟩, Below.refl _ _⟩ ?_
          clear cQ cz sz cP2 cy sy cx fz
          simp only [List.take_succ_cons, List.take_zero, List.drop_succ_cons, List.drop_zero]
          refine' flow_D0 rfl (fun ν w2 hC hD => ?_) ?_; rotate_left
          · clear hC hD; go_simp; exact ⟨Below.refl _ _, rfl⟩
          simp only [Act.put, List.setIfInBounds_toArray, List.set_cons_zero, List.set_cons_succ]
          refine' flow_D0 rfl (fun ν w2 hC hD => ?_) ?_; rotate_left
          · clear hC hD; go_simp; exact ⟨Below.refl _ _, rfl⟩
          simp only [Act.put, List.setIfInBounds_toArray, List.set_cons_zero, List.set_cons_succ]
          refine' flow_D0 rfl (fun ν w2 hC hD => ?_) ?_; rotate_left
          · clear hC hD; go_simp; exact ⟨Below.refl _ _, rfl⟩
          simp only [Act.put, List.setIfInBounds_toArray, List.set_cons_zero, List.set_cons_succ]
          refine' flow_D0 (e := .slice (some ⟨G, 0, none⟩) n n) rfl (fun ν w2 hC hD => ?_) ?_
          · have c1 := hC.1.1.1.1.1.1.1; clear hC hD; go_simp; exact ⟨Below.refl _ _, rfl⟩
          simp only [Act.put, List.setIfInBounds_toArray, List.set_cons_zero, List.set_cons_succ]
          refine' flow_D0 rfl (fun ν w2 hC hD => ?_) ?_; rotate_left
          · clear hC hD; go_simp; exact ⟨Below.refl _ _, rfl⟩
          simp only [Act.put, List.setIfInBounds_toArray, List.set_cons_zero, List.set_cons_succ]
          refine' flow_D0 rfl (fun ν w2 hC hD => ?_) ?_; rotate_left
          · clear hC hD; go_simp; exact ⟨Below.refl _ _, rfl⟩
          simp only [Act.put, List.setIfInBounds_toArray, List.set_cons_zero, List.set_cons_succ]
          refine' flow_D0 rfl (fun ν w2 hC hD => ?_) ?_; rotate_left
          · clear hC hD; go_simp; exact ⟨Below.refl _ _, rfl⟩
          simp only [Act.put, List.setIfInBounds_toArray, List.set_cons_zero, List.set_cons_succ]
          refine' flow_D0 rfl (fun ν w2 hC hD => ?_) ?_; rotate_left
          · clear hC hD; go_simp; exact ⟨Below.refl _ _, rfl⟩
          simp only [Act.put, List.setIfInBounds_toArray, List.set_cons_zero, List.set_cons_succ]
          refine' flow_D0 rfl (fun ν w2 hC hD => ?_) ?_; rotate_left
          · clear hC hD; go_simp; exact ⟨Below.refl _ _, rfl⟩
          simp only [Act.put, List.setIfInBounds_toArray, List.set_cons_zero, List.set_cons_succ]
          refine' flow_D0 (e := .slice (some ⟨G, 0, none⟩) n n) rfl (fun ν w2 hC hD => ?_) ?_
          · have c1 := hC.1.1.1.1.1.1.1; clear hC hD; go_simp; exact ⟨Below.refl _ _, rfl⟩
          simp only [Act.put, List.setIfInBounds_toArray, List.set_cons_zero, List.set_cons_succ]
          refine' flow_D0 rfl (fun ν w2 hC hD => ?_) ?_; rotate_left
          · clear hC hD; go_simp; exact ⟨Below.refl _ _, rfl⟩
          simp only [Act.put, List.setIfInBounds_toArray, List.set_cons_zero, List.set_cons_succ]
          refine' flow_D0 rfl (fun ν w2 hC hD => ?_) ?_; rotate_left
          · clear hC hD; go_simp; exact ⟨Below.refl _ _, rfl⟩
          simp only [Act.put, List.setIfInBounds_toArray, List.set_cons_zero, List.set_cons_succ]
          refine' flow_D0 (e := u) rfl (fun ν w2 hC hD => ?_) ?_
          · have c1 := hC.1.1.1.1.1.1.2; clear hC hD; go_simp; exact ⟨Below.refl _ _, rfl⟩
          simp only [Act.put, List.setIfInBounds_toArray, List.set_cons_zero, List.set_cons_succ]
          refine' flow_D0 rfl (fun ν w2 hC hD => ?_) ?_; rotate_left
          · clear hC hD; go_simp; exact ⟨Below.refl _ _, rfl⟩
          simp only [Act.put, List.setIfInBounds_toArray, List.set_cons_zero, List.set_cons_succ]
          refine' flow_D0 rfl (fun ν w2 hC hD => ?_) ?_; rotate_left
          · clear hC hD; go_simp; exact ⟨Below.refl _ _, rfl⟩
          simp only [Act.put, List.setIfInBounds_toArray, List.set_cons_zero, List.set_cons_succ]
          refine' flow_D0 rfl (fun ν w2 hC hD => ?_) ?_; rotate_left
          · clear hC hD; go_simp; exact ⟨Below.refl _ _, rfl⟩
          simp only [Act.put, List.setIfInBounds_toArray, List.set_cons_zero, List.set_cons_succ]
          refine' flow_D0 rfl (fun ν w2 hC hD => ?_) ?_; rotate_left
          · clear hC hD; go_simp; exact ⟨Below.refl _ _, rfl⟩
          simp only [Act.put, List.setIfInBounds_toArray, List.set_cons_zero, List.set_cons_succ]
          refine' flow_D0 (e := .slice (some ⟨b2, o2, none⟩) k cap2) rfl (fun ν w2 hC hD => ?_) ?_
          · have c1 := hC.1.1.1.1.2; clear hC hD; go_simp; exact ⟨Below.refl _ _, rfl⟩
          simp only [Act.put, List.setIfInBounds_toArray, List.set_cons_zero, List.set_cons_succ]
          refine' flow_D0 rfl (fun ν w2 hC hD => ?_) ?_; rotate_left
          · clear hC hD; go_simp; exact ⟨Below.refl _ _, rfl⟩
          simp only [Act.put, List.setIfInBounds_toArray, List.set_cons_zero, List.set_cons_succ]
          refine' flow_D0 rfl (fun ν w2 hC hD => ?_) ?_; rotate_left
          · clear hC hD; go_simp; exact ⟨Below.refl _ _, rfl⟩
          simp only [Act.put, List.setIfInBounds_toArray, List.set_cons_zero, List.set_cons_succ]
          refine' flow_D0 (e := .slice (some ⟨gy, oy, none⟩) c ky) rfl (fun ν w2 hC hD => ?_) ?_
          · have c1 := hC.1.1.1.2; clear hC hD; go_simp; exact ⟨Below.refl _ _, rfl⟩
          simp only [Act.put, List.setIfInBounds_toArray, List.set_cons_zero, List.set_cons_succ]
          refine' flow_N0 (fun u' w' => OB wr w' u' (rowAdd x z y)) (fun _ => lives_ob _ _ _) rfl (fun ν w2 hC hD => ?_) ?_
          · have hs := ret_ob' hC.2 (fsum_any w2 F hC.1.2 _ _ x y z c hC.1.1.1.1.1.2 hC.1.1.2 HL1.out HL2.out HR2.out.c1 (by have := HR2.out.c100; omega)); clear hC hD; go_simp; exact Below.refl _ _
          simp only [Act.put, List.setIfInBounds_toArray, List.set_cons_zero, List.set_cons_succ]
          refine' flow_D0 rfl (fun ν w2 hC hD => ?_) ?_; rotate_left
          · clear hC hD; go_simp; exact ⟨Below.refl _ _, rfl⟩
          simp only [Act.put, List.setIfInBounds_toArray, List.set_cons_zero, List.set_cons_succ]
          refine flow_nil ?_
          intro ν w2 hC hG
          obtain ⟨_, hg, cz, fz, _, _⟩ := (HOM2.out.later hC.2).or.at j HJz.out
          cases hg
          have hput := HOM2.out.put j HJz.out hG.2
          obtain ⟨A', cap', hν⟩ := hG.2.shape
          rw [HSe.out, hν] at hput
          have HPut := Lib.hid hput
          clear hC hG hput
          go_wp2
          go_roundw
          case rel => exact ⟨q + 1, _, _, Hq.out, rfl, by go_num, HPut.out⟩
          case measure => have := Hq.out; simp [intOf]; omega
        · obtain rfl : q = k := by omega
          have hset2 : Hid (rq = (mulL A B q c).take (j + 1) ++ List.replicate (n - (j + 1)) (List.replicate c 0)) := by rw [Hid, hrq.out]; exact hset.out
          have hrl2 := Lib.hid (show rq.length = n by rw [hrq.out, List.length_set]; exact hrl)
          clear hql hq
          go_wp2
          go_roundw
          case rel => exact ⟨j + 1, _, _, Hj.out, hset2.out, hrl2.out, by go_num, hM⟩
          case measure => have := Hj.out; simp [intOf]; omega
    · obtain rfl : j = n := by omega
      have hz : Hid (rws = mulL A B k c) := by rw [Hid, hrws.out, Nat.sub_self, List.take_of_length_le (by rw [HMl.out]; omega)]; simp
      rw [hz.out] at hM
      clear hlt hj
      go_wp2
      go_ret2
      exact ⟨_, _, _, rfl, hM⟩
end Go.Proofs.Ytllnocffmlagjaa
