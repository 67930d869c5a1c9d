/- Contracts of Field.Sum, Scale. Conditions: the field lies whole; rows of one length, of at least one byte. -/
import Derived.Test.YtllnocffmlagjaaX3
import Derived.Test.YtllnocffmlagjaaW0
set_option linter.unusedVariables false
namespace Go.Proofs.Ytllnocffmlagjaa
open Go.RowKit
attribute [local go_sem] flowAt flowUpon v8_xor

/-- x, and y times c added -/
def rowAdd (xa : List UInt8) (c : UInt8) (bs : List UInt8) : List UInt8 := List.zipWith (fun x y => x ^^^ gm c y) xa bs
theorem rowAdd_length (xa : List UInt8) (c : UInt8) (bs : List UInt8) (h : xa.length = bs.length) : (rowAdd xa c bs).length = xa.length := by simp [rowAdd]; omega
theorem rowAdd_at (xa : List UInt8) (c : UInt8) (bs : List UInt8) (k : Nat) (h1 : k < xa.length) (h2 : k < bs.length) : (rowAdd xa c bs).getD k 0 = xa.getD k 0 ^^^ gm c (bs.getD k 0) := by
  simp [rowAdd, List.getD_eq_getElem?_getD, List.getElem?_zipWith, h1, h2]
theorem set_two (xs zs : List UInt8) (k n : Nat) (hk : k < n) (hl : xs.length = n) (hz : zs.length = n) :
    (xs.take k ++ zs.drop k).set k (xs.getD k 0) = xs.take (k + 1) ++ zs.drop (k + 1) := by
  apply List.ext_getElem?
  intro i
  rw [List.getElem?_set]
  have h1 : (xs.take k).length = k := by simp; omega
  have h2 : (xs.take (k + 1)).length = k + 1 := by simp; omega
  by_cases e : k = i
  · subst e
    rw [if_pos rfl, if_pos (by simp; omega), List.getElem?_append_left (by omega), List.getElem?_take, if_pos (by omega), List.getD_eq_getElem?_getD]
    rw [List.getElem?_eq_getElem (by omega)]; rfl
  · rw [if_neg e]
    by_cases h : i < k
    · rw [List.getElem?_append_left (by omega), List.getElem?_append_left (by omega), List.getElem?_take, List.getElem?_take, if_pos h, if_pos (by omega)]
    · rw [List.getElem?_append_right (by omega), List.getElem?_append_right (by omega), h1, h2, List.getElem?_drop, List.getElem?_drop]
      congr 1; omega
theorem two_at (xs zs : List UInt8) (k : Nat) (hl : k < zs.length) (hx : k ≤ xs.length) : (xs.take k ++ zs.drop k).getD k 0 = zs.getD k 0 := by
  have h1 : (xs.take k).length = k := by simp; omega
  rw [List.getD_eq_getElem?_getD, List.getElem?_append_right (by omega), h1, Nat.sub_self, List.getElem?_drop, Nat.add_zero, ← List.getD_eq_getElem?_getD]

theorem own_full {w : World} {b e g n : Nat} {xs : List Value} (h : w.ownsRow b e 1 (.slice (some ⟨g, 0, none⟩) n n) n xs) : w.heap[g]? = some (.cells xs.toArray e (0, 0)) := by
  rcases h.2 with ⟨h1, _⟩ | ⟨g', cap, cur, h1, _, hg, _, _, hs, ht⟩
  · cases h1
  · cases h1
    rw [hg, ← ht]
    have : cur.toList.take (n * 1) = cur.toList := List.take_of_length_le (by simp; omega)
    rw [this]
theorem Src.of_rd {w : World} {ad : Addr} {xa : List UInt8} {b o : Nat} (h : Rd w (some ⟨b, o, none⟩) (bv xa)) : Src w ⟨b, o, none⟩ (bv xa) := by
  intro j v hj
  have hj' : j < xa.length := by
    rcases Nat.lt_or_ge j (bv xa).length with h' | h'
    · rwa [bv_length] at h'
    · rw [List.getElem?_eq_none h'] at hj; cases hj
  obtain ⟨b', o', e, hc⟩ := h.byte j hj'
  cases e
  rw [Addr.add_lit, hc]
  rw [← hj, bv, List.getElem?_map, List.getElem?_eq_getElem hj']
  simp [List.getD_eq_getElem?_getD, hj']
/-- copy(out, x), out a new slice of x's length. -/
theorem wpL_copyF {ops : Array Oper} {rest : List Oper} {o : Oper} {a : Act} {W : World} {Q : Exit → Act → World → Prop} (hgd : o.guard = none) (d s : Operand)
    (ho : o.op = .call { callee := .builtin .copy, args := #[d, s], argTypes := #[22, 22] })
    (g n : Nat) (b oo sCap : Nat) (hd : a.eval d = .slice (some ⟨g, 0, none⟩) n n) (hs : a.eval s = .slice (some ⟨b, oo, none⟩) n sCap)
    (w0 : World) (zs : List Value) (hw : W.ownsRow w0.heap.size 5 1 (.slice (some ⟨g, 0, none⟩) n n) n zs) (hb : Below w0.heap.size w0 W) (xa : List UInt8) (hx : Rd W (some ⟨b, oo, none⟩) (bv xa)) (hl : xa.length = n) (hn : n ≤ maxLen)
    (h : ∀ w', OB w0 w' (.slice (some ⟨g, 0, none⟩) n n) xa → wpList Try.prog ops Q rest (a.put o.dst (goInt n)) w') :
    wpList Try.prog ops Q (o :: rest) a W := by
  have hz : zs.length = n := by have := hw.1; omega
  have hbl : (bv xa).length = n := by rw [bv_length, hl]
  refine wpL_copyB hgd d s ho g 0 n n ⟨b, oo, none⟩ n sCap hd hs zs.toArray 5 (own_full hw) (bv xa) (by rw [hbl]; exact (Nat.min_self n).symm) (Src.of_rd (ad := ⟨b, oo, none⟩) hx) (by simp [hbl, hz]) (bv_one _) w0 hb (own_base' hw g rfl) fun w' hg hb' => ?_
  rw [hbl]
  refine h w' ⟨?_, hb'⟩
  have e : splice zs.toArray.toList 0 (bv xa) = bv xa := by
    unfold splice
    rw [List.take_zero, List.nil_append, Nat.zero_add, List.drop_eq_nil_of_le (by simp [hz, hbl]), List.append_nil]
  have hg' := hg.out
  rw [e] at hg'
  refine ⟨by rw [bv_length]; omega, .inr ⟨g, n, _, by rw [hl], own_base' hw g rfl, hg', by omega, hn, by simp [hbl], ?_⟩⟩
  rw [List.take_of_length_le (by simp [hbl, hl])]
set_option maxRecDepth 100000 in
set_option maxHeartbeats 1000000 in
theorem fsum_any (w : World) (F : Nat) (hF : FD w F) (va vb : Value) (xa bs : List UInt8) (c : UInt8) (n : Nat) (ha : Sl w va (bv xa)) (hb : Sl w vb (bv bs)) (hla : xa.length = n) (hlb : bs.length = n) (h0 : 1 ≤ n) (hn : n ≤ 1000) :
    Calls Try.prog 63 #[.pointer (some ⟨F, 0, none⟩), va, .int .u8 (V8 c), vb] w fun e w' => ∃ r, e = .returned r ∧ OB w w' r (rowAdd xa c bs) := by
  obtain ⟨aa, ca, rfl, _, _, _, hra⟩ := ha.openB
  obtain ⟨ab, cb, rfl, _, _, _, hrb⟩ := hb.openB
  obtain ⟨ga, oa, rfl, _⟩ := hra.byte 0 (by omega)
  have HA := Lib.hid ha
  have HB := Lib.hid (fun i h => hrb.byte i h)
  have HX := Lib.hid (fun k h1 h2 => rowAdd_at xa c bs k h1 h2)
  have hxl := rowAdd_length xa c bs (by omega)
  rw [hla] at hxl HX HA ⊢
  have HL := Lib.hid hla
  rw [hlb] at HB HX ⊢
  have HS := Lib.hid (fun k h1 => set_two (rowAdd xa c bs) xa k n h1 hxl hla)
  have HT := Lib.hid (fun k h1 h2 => two_at (rowAdd xa c bs) xa k h1 h2)
  have HXL := Lib.hid hxl
  have HF := Lib.hid hF
  have hn' : (n : Int) ≤ 1000 := by omega
  have HRa := Lib.hid hra
  clear ha hb hla hlb hra hrb hxl hF
  go_enter Try.func63, Try.ntmps63
  go_wp2_with (first
    | (with_reducible refine wpL_make _ rfl _ _ 22 5 _ 1 rfl Try.underlying22 inf5 rfl _ n (by omega) rfl rfl (by omega) (by omega) ?_; intro w2 hw2 hb2)
    | (with_reducible refine wpL_copyF rfl _ _ rfl w.heap.size n ga oa ca rfl rfl w _ hw2 hb2 xa (HRa.out.below hb2) HL.out (by simp [maxLen]; omega) ?_; intro w3 hO3))
  clear hw2 hb2
  go_loopw [10, 24] (fun _ i wr => ∃ (k : Nat) (zs : List UInt8), k ≤ n ∧ Hid (zs = (rowAdd xa c bs).take k ++ xa.drop k) ∧ zs.length = n ∧ i = .int .i64 k ∧ OB w wr (.slice (some ⟨w.heap.size, 0, none⟩) n n) zs) (fun _ i _ => (n - intOf i).toNat)
  case atStart => exact ⟨0, _, by omega, rfl, HL.out, rfl, hO3⟩
  case round =>
    obtain ⟨k, zs, hk, hzs, hzl, rfl, hOB⟩ := hrel
    by_cases hlt : k < n
    · have hlt' : (k : Int) < n := by omega
      obtain ⟨gb, ob, rfl, hcb⟩ := HB.out k hlt
      replace hcb := (hOB.2.cell (World.block_lt_of_cell? _ _ hcb)).trans hcb
      have hcz := hOB.cellB k (by omega)
      have hfz := hOB.frozenB k
      have ht := HT.out k (by rw [HL.out]; exact hlt) (by rw [HXL.out]; omega)
      rw [← hzs.out] at ht
      have hx := HX.out k hlt hlt
      have hs := HS.out k hlt
      rw [hx, ← hzs.out, ← ht] at hs
      have HSe := Lib.hid hs
      have HOB := Lib.hid hOB
      have HFr := Lib.hid (HF.out.later (hOB.2))
      have Hk := Lib.hid (show k + 1 ≤ n from hlt)
      generalize hyy : bs.getD k 0 = y at *
      generalize hxx : zs.getD k 0 = x at *
      have HBo := Lib.hid hOB.2
      clear hOB ht hx hs hyy hxx
      go_wp2
      refine wp_flowC 13 (by kernel_rfl) (by kernel_rfl) (fun w' => ((w'.cell? ⟨w.heap.size, k, none⟩ = some (.int .u8 (V8 x)) ∧ w'.cell? ⟨gb, ob + k, none⟩ = some (.int .u8 (V8 y))) ∧ FD w' F) ∧ OB w w' (.slice (some ⟨w.heap.size, 0, none⟩) n n) zs)
        (lives_and (lives_and (lives_and (lives_cell _ _) (lives_cell _ _)) (fun _ _ h hb => h.later hb)) (lives_ob _ _ _)) ⟨⟨⟨hcz, hcb⟩, HFr.out⟩, HOB.out⟩ ?_
      simp only [List.take_succ_cons, List.take_zero, List.drop_succ_cons, List.drop_zero]
      refine' flow_D0 rfl (fun ν w2 hC hD => ?_) ?_; rotate_left
      · clear hC hD; go_simp; exact ⟨Below.refl _ _, rfl⟩
      simp only [Act.put, List.setIfInBounds_toArray, List.set_cons_zero, List.set_cons_succ]
      refine' flow_D0 rfl (fun ν w2 hC hD => ?_) ?_; rotate_left
      · clear hC hD; go_simp; exact ⟨Below.refl _ _, rfl⟩
      simp only [Act.put, List.setIfInBounds_toArray, List.set_cons_zero, List.set_cons_succ]
      refine' flow_D0 rfl (fun ν w2 hC hD => ?_) ?_; rotate_left
      · clear hC hD; go_simp; exact ⟨Below.refl _ _, rfl⟩
      simp only [Act.put, List.setIfInBounds_toArray, List.set_cons_zero, List.set_cons_succ]
      refine' flow_D0 (e := .int .u8 (V8 x)) rfl (fun ν w2 hC hD => ?_) ?_
      · have c1 := hC.1.1.1; clear hC hD; go_simp; exact ⟨Below.refl _ _, rfl⟩
      simp only [Act.put, List.setIfInBounds_toArray, List.set_cons_zero, List.set_cons_succ]
      refine' flow_D0 rfl (fun ν w2 hC hD => ?_) ?_; rotate_left
      · clear hC hD; go_simp; exact ⟨Below.refl _ _, rfl⟩
      simp only [Act.put, List.setIfInBounds_toArray, List.set_cons_zero, List.set_cons_succ]
      refine' flow_D0 rfl (fun ν w2 hC hD => ?_) ?_; rotate_left
      · clear hC hD; go_simp; exact ⟨Below.refl _ _, rfl⟩
      simp only [Act.put, List.setIfInBounds_toArray, List.set_cons_zero, List.set_cons_succ]
      refine' flow_D0 rfl (fun ν w2 hC hD => ?_) ?_; rotate_left
      · clear hC hD; go_simp; exact ⟨Below.refl _ _, rfl⟩
      simp only [Act.put, List.setIfInBounds_toArray, List.set_cons_zero, List.set_cons_succ]
      refine' flow_D0 rfl (fun ν w2 hC hD => ?_) ?_; rotate_left
      · clear hC hD; go_simp; exact ⟨Below.refl _ _, rfl⟩
      simp only [Act.put, List.setIfInBounds_toArray, List.set_cons_zero, List.set_cons_succ]
      refine' flow_D0 rfl (fun ν w2 hC hD => ?_) ?_; rotate_left
      · clear hC hD; go_simp; exact ⟨Below.refl _ _, rfl⟩
      simp only [Act.put, List.setIfInBounds_toArray, List.set_cons_zero, List.set_cons_succ]
      refine' flow_D0 (e := .int .u8 (V8 y)) rfl (fun ν w2 hC hD => ?_) ?_
      · have c1 := hC.1.1.2; clear hC hD; go_simp; exact ⟨Below.refl _ _, rfl⟩
      simp only [Act.put, List.setIfInBounds_toArray, List.set_cons_zero, List.set_cons_succ]
      refine' flow_D0 (e := .int .u8 (V8 (gm c y))) rfl (fun ν w2 hC hD => ?_) ?_
      · have hs := (mul_any w2 F hC.1.2 c y).mono (R' := RetIn w2 (Yv (.int .u8 (V8 (gm c y))))) (fun e w' ⟨he, m, hw⟩ => ⟨_, he, by rw [hw]; exact ext_drewN _ _, rfl⟩)
        clear hC hD; go_simp; exact Below.refl _ _
      simp only [Act.put, List.setIfInBounds_toArray, List.set_cons_zero, List.set_cons_succ]
      refine' flow_D0 rfl (fun ν w2 hC hD => ?_) ?_; rotate_left
      · clear hC hD; go_simp; exact ⟨Below.refl _ _, rfl⟩
      simp only [Act.put, List.setIfInBounds_toArray, List.set_cons_zero, List.set_cons_succ]
      refine' flow_D0 rfl (fun ν w2 hC hD => ?_) ?_; rotate_left
      · clear hC hD; go_simp; exact ⟨Below.refl _ _, rfl⟩
      simp only [Act.put, List.setIfInBounds_toArray, List.set_cons_zero, List.set_cons_succ]
      refine flow_nil ?_
      intro ν w2 hC hG
      have c1 := hC.1.1.1
      have f1 := hC.2.frozenB k
      have HSt := Lib.hid (hC.2.set k (x ^^^ gm c y))
      rw [HSe.out] at HSt
      clear hC hG
      go_wp2
      go_roundw
      case rel => exact ⟨k + 1, _, Hk.out, rfl, by simp [HXL.out, HL.out]; omega, by go_num, HSt.out⟩
      case measure => simp [intOf]; omega
    · obtain rfl : k = n := by omega
      have hz : Hid (zs = rowAdd xa c bs) := by rw [Hid, hzs.out, List.take_of_length_le (by rw [HXL.out]; omega), List.drop_eq_nil_of_le (by rw [HL.out]; omega), List.append_nil]
      rw [hz.out] at hOB
      clear hlt hk
      go_wp2
      go_ret
      exact ⟨_, rfl, hOB⟩

def scaleL (c : UInt8) (bs : List UInt8) : List UInt8 := bs.map fun y => gm c y
theorem rowAdd_zeros (c : UInt8) (bs : List UInt8) : rowAdd (List.replicate bs.length 0) c bs = scaleL c bs := by
  unfold rowAdd scaleL
  apply List.ext_getElem
  · simp
  · intro i h1 h2
    rw [List.getElem_zipWith, List.getElem_replicate, List.getElem_map, UInt8.zero_xor]
set_option maxRecDepth 100000 in
set_option maxHeartbeats 1000000 in
theorem fscale_any (w : World) (F : Nat) (hF : FD w F) (vb : Value) (bs : List UInt8) (c : UInt8) (n : Nat) (hb : Sl w vb (bv bs)) (hlb : bs.length = n) (h0 : 1 ≤ n) (hn : n ≤ 1000) :
    Calls Try.prog 95 #[.pointer (some ⟨F, 0, none⟩), .int .u8 (V8 c), vb] w fun e w' => ∃ r, e = .returned r ∧ OB w w' r (scaleL c bs) := by
  obtain ⟨ab, cb, rfl, _, _, _, _⟩ := hb.openB
  have HB := Lib.hid hb
  have HF := Lib.hid hF
  have HL := Lib.hid hlb
  have hz := rowAdd_zeros c bs
  rw [hlb] at hz HB ⊢
  rw [← hz]
  have hn' : (n : Int) ≤ 1000 := by omega
  clear hb hF hlb hz
  go_enter Try.func95, Try.ntmps95
  go_wp2_with (first
    | (go_at_call 63; refine (fsum_any w2 F (HF.out.later hB2) _ _ _ bs c n hO.sl (HB.out.below hB2) List.length_replicate HL.out h0 hn).mono ?_; rintro e w3 ⟨r, rfl, hO3⟩)
    | (with_reducible refine wpL_make _ rfl _ _ 22 5 _ 1 rfl Try.underlying22 inf5 rfl _ n (by omega) rfl rfl (by omega) (by omega) ?_; intro w2 hw2 hB2; have hO := OB.zeros hw2 (Below.refl _ w) hB2))
  go_ret
  exact ⟨_, rfl, own_rebase hO3.1 hB2.size, below_then hB2 hB2.size hO3.2⟩
end Go.Proofs.Ytllnocffmlagjaa
