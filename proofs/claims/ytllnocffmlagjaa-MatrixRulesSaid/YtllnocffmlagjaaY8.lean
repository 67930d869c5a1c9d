/- Contract of matrix.reduce. Conditions: the rows lie in an outer row of the call's own; the field lies. -/
import Derived.Test.YtllnocffmlagjaaY7
set_option linter.unusedVariables false
set_option linter.unusedSimpArgs false
namespace Go.Proofs.Ytllnocffmlagjaa
open Go.RowKit
attribute [local go_sem] flowAt flowUpon v8_xor

/-- What reduce hands back. -/
structure RedOut (w0 w : World) (G n cap cols : Nat) (rows : List (List UInt8)) (v : Value) : Prop where
  out : ∃ A capl ls vs R X cnt, v = .slice A ls.length capl ∧ RS w0 w G n cap X cnt capl A ls vs R ∧ Red rows n cols ls R
def ptrB : Value → Nat
  | .pointer (some a) => a.block
  | _ => 0
theorem tick_measure (w w2 : World) (X cnt cols : Nat) (h : w.cell? ⟨X, 0, none⟩ = some (.int .i64 cnt)) (hlt : cnt < cols) :
    ((cols : Int) - intOf (((w2.alloc (.cells #[.int .i64 ((cnt : Int) + 1)] 3)).cell? ⟨ptrB (.pointer (some ⟨w2.heap.size, 0, none⟩)), 0, none⟩).getD undef)).toNat < ((cols : Int) - intOf ((w.cell? ⟨ptrB (.pointer (some ⟨X, 0, none⟩)), 0, none⟩).getD undef)).toNat := by
  have h2 : (w2.alloc (.cells #[.int .i64 ((cnt : Int) + 1)] 3)).cell? ⟨w2.heap.size, 0, none⟩ = some (.int .i64 ((cnt : Int) + 1)) := (cell_of_row _ _ 0 _ _ _ (heap_alloc_new w2 _)).trans rfl
  simp only [ptrB, h, h2, Option.getD_some, intOf]
  omega
set_option maxRecDepth 100000 in
set_option maxHeartbeats 2000000 in
theorem reduce_any (w0 w : World) (F G n cc cap cols : Nat) (vs : List Value) (rows : List (List UInt8)) (hF : FD w0 F) (hL : LR w0 w G n cap vs rows) (hr : Rect rows n cc) (hc : cols ≤ cc) :
    Calls Try.prog 65 #[.pointer (some ⟨F, 0, none⟩), .slice (some ⟨G, 0, none⟩) n cap, .int .i64 cols] w fun e w' => ∃ v, e = .returned v ∧ RedOut w0 w' G n cap cols rows v := by
  have hn' : (n : Int) ≤ 100 := by have := hr.n100; omega
  have hc' : (cols : Int) ≤ 100 := by have := hr.c100; omega
  have HR := Lib.hid hr
  have HF := Lib.hid hF
  have HCC := Lib.hid hc
  have hRS : RS w0 (w.alloc (.cells #[.int .i64 0] 3)) G n cap w.heap.size 0 0 none [] vs rows := by
    have hb : Below w.heap.size w (w.alloc (.cells #[.int .i64 0] 3)) := ((Below.refl _ w).alloc (Nat.le_refl _) _)
    exact ⟨hL.later hb, heap_alloc_new w _, hL.below.size, World.ownsRow_nil _ _ _ _, by simp [Value.ownBlock]⟩
  clear hr hF hL hc
  go_enter Try.func65, Try.ntmps65
  go_wp2
  go_loopw [7, 8] (fun lv bx wr => ∃ (A : Option Addr) (capl : Nat) (ls : List Nat) (vq : List Value) (R : List (List UInt8)) (X cnt L : Nat), lv = .slice A L capl ∧ L = ls.length ∧ bx = .pointer (some ⟨X, 0, none⟩) ∧ cnt ≤ cols ∧ RS w0 wr G n cap X cnt capl A ls vq R ∧ Hid (Red rows n cnt ls R)) (fun lv bx wr => (cols - intOf ((wr.cell? ⟨ptrB bx, 0, none⟩).getD undef)).toNat)
  case atStart => exact ⟨none, 0, [], vs, rows, w.heap.size, 0, 0, rfl, rfl, rfl, by omega, hRS, .start⟩
  case round =>
    obtain ⟨A, capl, ls, vq, R, X, cnt, L, rfl, hL, rfl, hcnt, hS, hRed⟩ := hrel
    clear hRS
    have hll := hRed.out.len
    by_cases h1 : cnt < cols
    · have h1' : (cnt : Int) < cols := by omega
      by_cases h2 : L < n
      · have h2' : (L : Int) < n := by omega
        have cX := hS.cellX
        subst hL
        have hlt : ls.length < n := h2
        have hRe := HR.out
        have hRR := hRed.out.rect hRe
        have hidx := index_any wr X cnt cc G ls.length (n - ls.length) (cap - ls.length) R cX (by have := HCC.out; omega) (by have := hRe.c100; omega) (by have := hRe.n100; omega) (fun i hi => by
          have hL2 := hS.lr.L
          have hi' : ls.length + i < R.length := by omega
          exact ⟨_, (hS.lr.at _ (by omega)).1, (hS.lr.el _ hi').1, hRR.col _ (by omega)⟩)
        have hcne : ¬ cap = ls.length := by have := hS.lr.cap_le; omega
        have Hcnt := Lib.hid h1
        have Hlt := Lib.hid hlt
        have HRR := Lib.hid hRR
        have HS := Lib.hid (show RS w0 (wr.alloc (.cells #[.int .i64 ((cnt : Int) + 1)] 3)) G n cap wr.heap.size (cnt + 1) capl A ls vq R from hS.tick (cnt + 1))
        have HM := Lib.hid (tick_measure wr wr X cnt cols cX h1)
        clear hRe hRR h1 h2 hlt hcnt hll
        go_wp2_with (go_at_call 93; refine hidx.mono ?_; clear hidx; rintro e w' (⟨rfl, hw', hz⟩ | ⟨k, hk, rfl, hw', hnz⟩) <;> (rw [hw']; clear hw' w'))
        · have HN := Lib.hid (hRed.out.skip fun i h1 h2 => by
            have := hz (i - ls.length) (by omega)
            rwa [Nat.add_sub_cancel' h1] at this)
          exact ⟨⟨A, capl, ls, vq, R, wr.heap.size, cnt + 1, _, rfl, rfl, rfl, Hcnt.out, HS.out, HN.out⟩, HM.out⟩
        · clear HS HM
          have hlt := Hlt.out
          obtain ⟨T, hT⟩ : ∃ T, ls.length + k = T := ⟨_, rfl⟩
          have hTi : (ls.length : Int) + (k : Int) = T := by omega
          have hTn : (T : Int) < n := by omega
          rw [hT] at hnz
          have hRL := hS.lr.L
          have HSw := Lib.hid (hS.swap ls.length T (by omega) (by omega))
          have HNz := Lib.hid hnz
          obtain ⟨cT, fT⟩ := hS.lr.at T (by omega)
          obtain ⟨cA, fA⟩ := hS.lr.at ls.length hlt
          have sT := (hS.lr.el T (by omega)).1
          have sA := (hS.lr.el ls.length (by omega)).1
          obtain ⟨cT1, fT1⟩ := (hS.put ls.length (by omega) (hS.lr.el T (by omega)).1 (hS.lr.el T (by omega)).2).lr.at T (by omega)
          generalize (vq.set ls.length (vq.getD T undef)).getD T undef = u1 at *
          generalize (vq.set ls.length (vq.getD T undef)).set T (vq.getD ls.length undef) = V2 at *
          generalize vq.getD T undef = uT at *
          generalize vq.getD ls.length undef = uA at *
          obtain ⟨aT, kT, rfl, _, _, _, _⟩ := sT.openB
          obtain ⟨aA, kA, rfl, _, _, _, _⟩ := sA.openB
          generalize (R.getD T []).length = lT at *
          generalize (R.getD ls.length []).length = lA at *
          clear sT sA hnz hk hS hRL
          go_region
          have S2 := HSw.out.drewN 1
          change RS w0 ((wr.setCell ⟨G, ls.length, none⟩ (.slice aT lT kT)).setCell ⟨G, T, none⟩ (.slice aA lA kA)).drew _ _ _ _ _ _ _ _ _ _ at S2
          have hBw : Below w0.heap.size w0 ((wr.setCell ⟨G, ls.length, none⟩ (.slice aT lT kT)).setCell ⟨G, T, none⟩ (.slice aA lA kA)).drew := S2.lr.below
          generalize ((wr.setCell ⟨G, ls.length, none⟩ (.slice aT lT kT)).setCell ⟨G, T, none⟩ (.slice aA lA kA)).drew = W2 at *
          clear HSw cT fT cA fA cT1 fT1
          have hSR := swapR_rect HRR.out ls.length T hlt (by omega)
          have hPat := swapR_at R ls.length T (by rw [HRR.out.len]; exact hlt) (by rw [HRR.out.len]; omega)
          have hny : ((swapR R ls.length T).getD ls.length []).getD cnt 0 ≠ 0 := by rw [hPat]; exact HNz.out
          have HRed := Lib.hid (hRed.out.step T (by omega) (by omega) HNz.out)
          clear hPat hRed
          generalize swapR R ls.length T = SR at *
          have hEr := elimR_rect hSR ls.length cnt hlt
          have hEp := elimR_at SR n ls.length cnt ls.length hlt
          rw [if_pos rfl] at hEp
          have hEk := Lib.hid (fun k (h1 : k < n) (h2 : k ≠ ls.length) => (elimR_at SR n ls.length cnt k h1).trans (if_neg h2))
          have hPl := hSR.col _ hlt
          obtain ⟨cP, fP⟩ := S2.lr.at ls.length hlt
          have sP := (S2.lr.el ls.length (by rw [hSR.len]; exact hlt)).1
          generalize V2.getD ls.length undef = uP at *
          generalize SR.getD ls.length [] = PP at *
          obtain ⟨aP, kP, rfl, _, _, _, rP⟩ := sP.openB
          have hccn : cnt < cc := by have := HCC.out; have := Hcnt.out; omega
          obtain ⟨gP, oP, rfl, cy⟩ := rP.byte cnt (by rw [hPl]; exact hccn)
          rw [hPl] at cP sP
          generalize PP.getD cnt 0 = y at *
          have hcci : (cnt : Int) < cc := by omega
          have cX2 := S2.cellX
          have HFw := Lib.hid (fun m => show FD (W2.drewN m) F from HF.out.later (below_drewN hBw m))
          have HS2 := Lib.hid (fun m => S2.drewN m)
          have HsP := Lib.hid (fun m => show Sl (W2.drewN m) (.slice (some ⟨gP, oP, none⟩) cc kP) (bv PP) from sP.below (below_drewN (Below.refl _ _) m))
          have hlti : (ls.length : Int) < n := by omega
          clear rP S2 sP
          go_wp2
          go_quiet ((go_at_call 82; exact Calls.quiet_of (inv_any _ F (HFw.out _) y hny)))
          have S3 := HS2.out nq
          have F3 := HFw.out nq
          have sP3 := HsP.out nq
          have hB3 := below_drewN hBw nq
          have cP3 : (W2.drewN nq).cell? ⟨G, ls.length, none⟩ = some (.slice (some ⟨gP, oP, none⟩) cc kP) := cP
          have fP3 : (W2.drewN nq).frozen? ⟨G, ls.length, none⟩ = false := fP
          generalize W2.drewN nq = W3 at *
          clear HFw HS2 HsP cX2 cP fP cy hBw
          have h1cc := hSR.c1
          have h1cc' := hSR.c100
          have HS3 := Lib.hid S3
          have HSR := Lib.hid hSR
          clear hSR S3
          go_wp2_with (go_at_call 95; refine (fscale_any W3 F F3 _ PP (iv y) cc sP3 hPl h1cc (by omega)).mono ?_; rintro e W4 ⟨r, rfl, hO⟩; obtain ⟨Ar, cr, hr⟩ := hO.shape; rw [scaleL_length, hPl] at hr; subst hr; have S4 := HS3.out.later hO.bel; obtain ⟨cP4, fP4⟩ := S4.lr.at ls.length hlt)
          have hSRl := HSR.out.len
          have S5 := S4.put ls.length (by rw [hSRl]; exact hlt) hO.sl (T5.own hO.1)
          have hEl := hEr.len
          have hZl : (SR.set ls.length (scaleL (iv y) PP)).length = (elimR SR n ls.length cnt).length := by rw [List.length_set, hSRl, hEl]
          have hZp : (SR.set ls.length (scaleL (iv y) PP)).getD ls.length [] = (elimR SR n ls.length cnt).getD ls.length [] := by rw [hEp]; exact getD_set_eq _ _ _ _ (by rw [hSRl]; exact hlt)
          have HZk := Lib.hid (fun k (h2 : k ≠ ls.length) => show (SR.set ls.length (scaleL (iv y) PP)).getD k [] = SR.getD k [] from getD_set_other _ _ _ _ _ (fun e => h2 e.symm))
          have hScl : (scaleL (iv y) PP).length = cc := (scaleL_length _ _).trans hPl
          have hcs := hEr.col
          generalize elimR SR n ls.length cnt = E at *
          generalize SR.set ls.length (scaleL (iv y) PP) = Z at *
          generalize scaleL (iv y) PP = Sc at *
          have HZp := Lib.hid hZp
          have HEp := Lib.hid hEp
          have HEl := Lib.hid hEl
          have HZl := Lib.hid hZl
          have HScl := Lib.hid hScl
          have HTM := Lib.hid (fun w5 => tick_measure wr w5 X cnt cols cX Hcnt.out)
          clear hZp hEp hEl hZl hScl hcs hEr hSRl cP4 fP4 hO S4 sP3 cP3 fP3 F3 hB3 hPl hny hT hTi hTn HNz cX
          go_loopw [13, 77] (fun _ i wq => ∃ (q : Nat) (vq : List Value) (rq : List (List UInt8)), q ≤ n ∧ i = .int .i64 q ∧ RS w0 wq G n cap X cnt capl A ls vq rq ∧ Hid (rq = E.take q ++ Z.drop q)) (fun _ i _ => (n - intOf i).toNat)
          case atStart => exact ⟨0, _, _, by omega, rfl, S5, by simp [Hid]⟩
          case round =>
            obtain ⟨q, vs3, rq, hq, rfl, S6, hrq⟩ := hrel
            clear S5
            by_cases hqn : q < n
            · have hqn' : (q : Int) < n := by omega
              by_cases hqp : q = ls.length
              · have HQ2 := Lib.hid (show rq = E.take (q + 1) ++ Z.drop (q + 1) by rw [hrq.out]; exact mixG_skip E Z [] q (by rw [HEl.out]; exact hqn) HZl.out (by rw [hqp]; exact HZp.out))
                have hqi : (q : Int) = (ls.length : Int) := by omega
                have hqb : ((q : Int) == (ls.length : Int)) = true := by simp [hqi]
                have Hq := Lib.hid (show q + 1 ≤ n from hqn)
                clear hqn hqp hq hrq
                go_wp2
                go_roundw
                case rel => exact ⟨q + 1, _, _, Hq.out, by go_num, S6, HQ2.out⟩
                case measure => have := Hq.out; simp [intOf]; omega
              · have hqb : ((q : Int) == (ls.length : Int)) = false := beq_eq_false_iff_ne.2 (by omega)
                have hrl := S6.lr.L
                have hqr : q < rq.length := by omega
                have hrqq : rq.getD q [] = SR.getD q [] := by rw [hrq.out, mixG_getD E Z [] q q (by rw [HEl.out]; omega), if_neg (by omega), HZk.out q hqp]
                have hrqp : rq.getD ls.length [] = Sc := by
                  rw [hrq.out, mixG_getD E Z [] q ls.length (by rw [HEl.out]; omega), HZp.out, HEp.out]; split <;> rfl
                have hset : rq.set q (rowAdd (SR.getD q []) ((SR.getD q []).getD cnt 0) Sc) = E.take (q + 1) ++ Z.drop (q + 1) := by
                  rw [← hEk.out q hqn hqp, hrq.out]; exact mixG_set E Z [] q (by rw [HEl.out]; exact hqn) HZl.out
                obtain ⟨cq, fq⟩ := S6.lr.at q hqn
                obtain ⟨cp, _⟩ := S6.lr.at ls.length hlt
                have sq := (S6.lr.el q hqr).1
                have sp := (S6.lr.el ls.length (by omega)).1
                rw [hrqq] at sq
                rw [hrqp] at sp
                have hql := HSR.out.col q hqn
                generalize vs3.getD q undef = uq at *
                generalize vs3.getD ls.length undef = up at *
                generalize SR.getD q [] = rowq at *
                obtain ⟨aq, kq, rfl, _, _, _, rq'⟩ := sq.openB
                obtain ⟨gq, oq, rfl, cz⟩ := rq'.byte cnt (by rw [hql]; exact hccn)
                rw [hql] at cq sq
                generalize rowq.getD cnt 0 = z at *
                have cX6 := S6.cellX
                have F6 := HF.out.later S6.lr.below
                have HS6 := Lib.hid S6
                have Hset := Lib.hid hset
                have Hq := Lib.hid (show q + 1 ≤ n from hqn)
                have Hql := Lib.hid hql
                have Hqr := Lib.hid hqr
                clear S6 hset hrqq hrqp hrl hqr hrq rq' hq hqp hqn hql
                go_wp2
                refine wp_flowC 20 (by kernel_rfl) (by kernel_rfl) (fun w' => ((((((w'.cell? ⟨G, q, none⟩ = some (.slice (some ⟨gq, oq, none⟩) cc kq) ∧ Sl w' (.slice (some ⟨gq, oq, none⟩) cc kq) (bv rowq)) ∧ w'.cell? ⟨X, 0, none⟩ = some (.int .i64 cnt)) ∧ w'.cell? ⟨gq, oq + cnt, none⟩ = some (.int .u8 (V8 z))) ∧ w'.cell? ⟨G, ls.length, none⟩ = some up) ∧ Sl w' up (bv Sc)) ∧ FD w' F) ∧ Below wr.heap.size wr w')
                  (lives_and (lives_and (lives_and (lives_and (lives_and (lives_and (lives_and (lives_cell _ _) (lives_sl _ _)) (lives_cell _ _)) (lives_cell _ _)) (lives_cell _ _)) (lives_sl _ _)) (lives_fd _)) (lives_below _)) ⟨⟨⟨⟨⟨⟨⟨cq, sq⟩, cX6⟩, cz⟩, cp⟩, sp⟩, F6⟩, Below.refl _ _⟩ ?_
                clear cq sq cX6 cz cp sp F6 fq
                simp only [List.take_succ_cons, List.take_zero, List.drop_succ_cons, List.drop_zero]
                refine' flow_D0 rfl (fun ν w2 hC hD => ?_) ?_; rotate_left
                · clear hC hD; go_simp; exact ⟨Below.refl _ _, rfl⟩
                simp only [Act.put, List.setIfInBounds_toArray, List.set_cons_zero, List.set_cons_succ]
                refine' flow_D0 rfl (fun ν w2 hC hD => ?_) ?_; rotate_left
                · clear hC hD; go_simp; exact ⟨Below.refl _ _, rfl⟩
                simp only [Act.put, List.setIfInBounds_toArray, List.set_cons_zero, List.set_cons_succ]
                refine' flow_D0 rfl (fun ν w2 hC hD => ?_) ?_; rotate_left
                · clear hC hD; go_simp; exact ⟨Below.refl _ _, rfl⟩
                simp only [Act.put, List.setIfInBounds_toArray, List.set_cons_zero, List.set_cons_succ]
                refine' flow_D0 rfl (fun ν w2 hC hD => ?_) ?_; rotate_left
                · clear hC hD; go_simp; exact ⟨Below.refl _ _, rfl⟩
                simp only [Act.put, List.setIfInBounds_toArray, List.set_cons_zero, List.set_cons_succ]
                refine' flow_D0 rfl (fun ν w2 hC hD => ?_) ?_; rotate_left
                · clear hC hD; go_simp; exact ⟨Below.refl _ _, rfl⟩
                simp only [Act.put, List.setIfInBounds_toArray, List.set_cons_zero, List.set_cons_succ]
                refine' flow_D0 rfl (fun ν w2 hC hD => ?_) ?_; rotate_left
                · clear hC hD; go_simp; exact ⟨Below.refl _ _, rfl⟩
                simp only [Act.put, List.setIfInBounds_toArray, List.set_cons_zero, List.set_cons_succ]
                refine' flow_D0 (e := .slice (some ⟨gq, oq, none⟩) cc kq) rfl (fun ν w2 hC hD => ?_) ?_
                · have c1 := hC.1.1.1.1.1.1.1; clear hC hD; go_simp; exact ⟨Below.refl _ _, rfl⟩
                simp only [Act.put, List.setIfInBounds_toArray, List.set_cons_zero, List.set_cons_succ]
                refine' flow_D0 rfl (fun ν w2 hC hD => ?_) ?_; rotate_left
                · clear hC hD; go_simp; exact ⟨Below.refl _ _, rfl⟩
                simp only [Act.put, List.setIfInBounds_toArray, List.set_cons_zero, List.set_cons_succ]
                refine' flow_D0 rfl (fun ν w2 hC hD => ?_) ?_; rotate_left
                · clear hC hD; go_simp; exact ⟨Below.refl _ _, rfl⟩
                simp only [Act.put, List.setIfInBounds_toArray, List.set_cons_zero, List.set_cons_succ]
                refine' flow_D0 rfl (fun ν w2 hC hD => ?_) ?_; rotate_left
                · clear hC hD; go_simp; exact ⟨Below.refl _ _, rfl⟩
                simp only [Act.put, List.setIfInBounds_toArray, List.set_cons_zero, List.set_cons_succ]
                refine' flow_D0 (e := .slice (some ⟨gq, oq, none⟩) cc kq) rfl (fun ν w2 hC hD => ?_) ?_
                · have c1 := hC.1.1.1.1.1.1.1; clear hC hD; go_simp; exact ⟨Below.refl _ _, rfl⟩
                simp only [Act.put, List.setIfInBounds_toArray, List.set_cons_zero, List.set_cons_succ]
                refine' flow_D0 (e := .int .i64 cnt) rfl (fun ν w2 hC hD => ?_) ?_
                · have c1 := hC.1.1.1.1.1.2; clear hC hD; go_simp; exact ⟨Below.refl _ _, rfl⟩
                simp only [Act.put, List.setIfInBounds_toArray, List.set_cons_zero, List.set_cons_succ]
                refine' flow_D0 rfl (fun ν w2 hC hD => ?_) ?_; rotate_left
                · clear hC hD; go_simp; exact ⟨Below.refl _ _, rfl⟩
                simp only [Act.put, List.setIfInBounds_toArray, List.set_cons_zero, List.set_cons_succ]
                refine' flow_D0 (e := .int .u8 (V8 z)) rfl (fun ν w2 hC hD => ?_) ?_
                · have c1 := hC.1.1.1.1.2; clear hC hD; go_simp; exact ⟨Below.refl _ _, rfl⟩
                simp only [Act.put, List.setIfInBounds_toArray, List.set_cons_zero, List.set_cons_succ]
                refine' flow_D0 rfl (fun ν w2 hC hD => ?_) ?_; rotate_left
                · clear hC hD; go_simp; exact ⟨Below.refl _ _, rfl⟩
                simp only [Act.put, List.setIfInBounds_toArray, List.set_cons_zero, List.set_cons_succ]
                refine' flow_D0 rfl (fun ν w2 hC hD => ?_) ?_; rotate_left
                · clear hC hD; go_simp; exact ⟨Below.refl _ _, rfl⟩
                simp only [Act.put, List.setIfInBounds_toArray, List.set_cons_zero, List.set_cons_succ]
                refine' flow_D0 rfl (fun ν w2 hC hD => ?_) ?_; rotate_left
                · clear hC hD; go_simp; exact ⟨Below.refl _ _, rfl⟩
                simp only [Act.put, List.setIfInBounds_toArray, List.set_cons_zero, List.set_cons_succ]
                refine' flow_D0 (e := up) rfl (fun ν w2 hC hD => ?_) ?_
                · have c1 := hC.1.1.1.2; clear hC hD; go_simp; exact ⟨Below.refl _ _, rfl⟩
                simp only [Act.put, List.setIfInBounds_toArray, List.set_cons_zero, List.set_cons_succ]
                refine' flow_N0 (fun u' w' => OB wr w' u' (rowAdd rowq z Sc)) (fun _ => lives_ob _ _ _) rfl (fun ν w2 hC hD => ?_) ?_
                · have hs := ret_ob' hC.2 (fsum_any w2 F hC.1.2 _ _ rowq Sc z cc hC.1.1.1.1.1.1.2 hC.1.1.2 Hql.out HScl.out h1cc (by omega)); clear hC hD; go_simp; exact Below.refl _ _
                simp only [Act.put, List.setIfInBounds_toArray, List.set_cons_zero, List.set_cons_succ]
                refine' flow_D0 rfl (fun ν w2 hC hD => ?_) ?_; rotate_left
                · clear hC hD; go_simp; exact ⟨Below.refl _ _, rfl⟩
                simp only [Act.put, List.setIfInBounds_toArray, List.set_cons_zero, List.set_cons_succ]
                refine flow_nil ?_
                intro ν w2 hC hG
                obtain ⟨A', cap', hν⟩ := hG.2.shape
                have S7 := HS6.out.later hC.2
                obtain ⟨cq, fq⟩ := S7.lr.at q (by have := Hq.out; omega)
                have hput := S7.put q Hqr.out hG.2.sl (T5.own hG.2.1)
                rw [Hset.out, hν] at hput
                have HPut := Lib.hid hput
                clear hC hG hput S7
                go_wp2
                go_roundw
                case rel => exact ⟨q + 1, _, _, Hq.out, by go_num, HPut.out, rfl⟩
                case measure => have := Hq.out; simp [intOf]; omega
            · obtain rfl : q = n := by omega
              have hfin : Hid (rq = E) := by rw [Hid, hrq.out, List.take_of_length_le (by rw [HEl.out]; omega), List.drop_eq_nil_of_le (by rw [HZl.out, HEl.out]; omega), List.append_nil]
              rw [hfin.out] at S6
              have cX6 := S6.cellX
              have hl1 : ls.length ≤ 1000 := by omega
              clear hqn hq hrq hfin
              go_wp2_with (at_builtin; refine wpL_pushN S6 rfl _ _ rfl _ rfl rfl _ rfl rfl hl1 (ls.length + 1) rfl ?_; intro A' capl' w5 S7; have cX7 := S7.cellX)
              have S8 := S7.tick (cnt + 1)
              exact ⟨⟨A', capl', ls ++ [cnt], _, _, w5.heap.size, cnt + 1, _, rfl, by simp, rfl, Hcnt.out, S8, HRed.out⟩, HTM.out w5⟩
      · have h2' : ¬ ((L : Int) < n) := by omega
        have cX := hS.cellX
        have HE := Lib.hid (show Red rows n cols ls R by
          have := hRed.out.full (by omega) (cols - cnt)
          rwa [Nat.add_sub_cancel' hcnt] at this)
        subst hL
        clear hRed hll h2 h1 hcnt
        go_wp2
        go_ret
        exact ⟨_, rfl, ⟨A, capl, ls, vq, R, X, cnt, rfl, hS, HE.out⟩⟩
    · obtain rfl : cnt = cols := by omega
      have cX := hS.cellX
      subst hL
      clear hll h1 hcnt
      go_wp2
      go_ret
      exact ⟨_, rfl, ⟨A, capl, ls, vq, R, X, cnt, rfl, hS, hRed.out⟩⟩
end Go.Proofs.Ytllnocffmlagjaa
