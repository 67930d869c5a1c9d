/- Contracts of matrix.New, Size. Conditions: rows of one length, 1 to 64 of 1 to 64. -/
import Derived.Test.YtllnocffmlagjaaY2
set_option linter.unusedVariables false
set_option linter.unusedSimpArgs false
namespace Go.Proofs.Ytllnocffmlagjaa
open Go.RowKit
attribute [local go_sem] flowAt flowUpon

theorem grown_setRow (w : World) (X : Nat) (cs : Array Value) : w.grownBy (w.setRow X cs) (some X) :=
  ⟨rfl, rfl, rfl, by simp, fun k _ hk => setRow_other w X k _ (fun e => hk (by rw [e]))⟩
/-- Row i is filled anew. -/
theorem OM.fill {w0 w : World} {P : Nat} {lv : Value} {vs : List Value} {rows : List (List UInt8)} (h : OM w0 w P lv vs rows) (i : Nat) (hi : i < rows.length) {X m : Nat} (hv : vs.getD i undef = .slice (some ⟨X, 0, none⟩) m m) (bs : List UInt8) (hb : bs.length = m) (hm : (rows.getD i []).length = m) :
    OM w0 (w.setRow X (bv bs).toArray) P lv vs (rows.set i bs) := by
  have hel := h.or.el i hi
  rw [hv, hm] at hel
  have hg := grown_setRow w X (bv bs).toArray
  have hcur := own_full hel
  have hXb : w0.heap.size ≤ X := own_base' hel X rfl
  have hr : (w.setRow X (bv bs).toArray).ownsRow w0.heap.size 5 1 (.slice (some ⟨X, 0, none⟩) m m) m (bv bs) := by
    refine ⟨by rw [bv_length, hb]; omega, .inr ⟨X, m, (bv bs).toArray, rfl, hXb, setRow_heap w X _ _ _ _ hcur, Nat.le_refl _, ?_, by simp [bv_length, hb], List.take_of_length_le (by simp [bv_length, hb])⟩⟩
    rcases hel.2 with ⟨h1, _⟩ | ⟨g', c', cur, h1, _, _, _, h4, _⟩
    · cases h1
    · cases h1; exact h4
  have hneP := own_not h.ptr hel (by decide)
  have hbel : Below w0.heap.size w0 (w.setRow X (bv bs).toArray) := h.or.below.grown hg h.or.below.size fun k e => by cases e; exact hXb
  refine ⟨?_, h.base, ⟨h.or.row.kept hg ?_, by simp [h.or.len], fun j hj => ?_, fun j l hj hl => ?_, hbel⟩⟩
  · rw [setRow_other]
    · exact h.ptr
    · intro e
      rcases hneP with h' | h'
      · cases h'
      · exact h' (by rw [e]; rfl)
  · have := own_other hel h.or.row
    cases hlv : lv.ownBlock with
    | none => exact .inl rfl
    | some z =>
      refine .inr fun e => ?_
      rcases this with h1 | h1
      · cases h1
      · exact h1 (by rw [hlv, e]; rfl)
  · rw [List.length_set] at hj
    by_cases e : i = j
    · subst e
      rw [getD_set_eq _ _ _ _ hi, hv, hb]
      exact hr
    · rw [getD_set_other _ _ _ _ _ e]
      refine (h.or.el j hj).kept hg (.inr fun e2 => ?_)
      exact h.or.ne j i hj hi (fun e3 => e e3.symm) X e2 (by rw [hv]; rfl)
  · rw [List.length_set] at hj hl
    exact h.or.ne j l hj hl
/-- copy(out, x), out an own row, x as long: the world written out. -/
theorem wpL_copyR {ops : Array Oper} {rest : List Oper} {o : Oper} {a : Act} {W : World} {Q : Exit → Act → World → Prop} (hgd : o.guard = none) (d s : Operand)
    (ho : o.op = .call { callee := .builtin .copy, args := #[d, s], argTypes := #[22, 22] })
    (g n : Nat) (b oo sCap : Nat) (hd : a.eval d = .slice (some ⟨g, 0, none⟩) n n) (hs : a.eval s = .slice (some ⟨b, oo, none⟩) n sCap)
    (B : Nat) (zs : List Value) (hw : W.ownsRow B 5 1 (.slice (some ⟨g, 0, none⟩) n n) n zs) (xa : List UInt8) (hx : Rd W (some ⟨b, oo, none⟩) (bv xa)) (hl : xa.length = n)
    (h : wpList Try.prog ops Q rest (a.put o.dst (goInt n)) (W.setRow g (bv xa).toArray)) :
    wpList Try.prog ops Q (o :: rest) a W := by
  have hz : zs.length = n := by have := hw.1; omega
  have hbl : (bv xa).length = n := by rw [bv_length, hl]
  have hsz : (Try.prog.info? 5).map (·.size) = some 1 := by kernel_rfl
  refine wpList_copy_own hgd d s 22 22 ho 5 Try.underlying22 hsz g 0 n n ⟨b, oo, none⟩ n sCap hd hs zs.toArray 5 (own_full hw) (bv xa) (by rw [hbl]; exact (Nat.min_self n).symm) (Src.of_rd (ad := ⟨b, oo, none⟩) hx) (by simp [hbl, hz]) (bv_one _) ?_
  have e : zs.toArray.toList.take 0 ++ (bv xa ++ zs.toArray.toList.drop (0 + (bv xa).length)) = bv xa := by
    rw [List.take_zero, List.nil_append, Nat.zero_add, List.drop_eq_nil_of_le (by simp [hz, hbl]), List.append_nil]
  rw [e, hbl]
  exact h

theorem rows_fill {α : Type} (xs : List (List α)) (d : List α) (k n : Nat) (hk : k < n) (hl : xs.length = n) :
    (xs.take k ++ List.replicate (n - k) d).set k (xs.getD k []) = xs.take (k + 1) ++ List.replicate (n - (k + 1)) d := by
  have h1 : (xs.take k).length = k := by simp; omega
  rw [show n - k = (n - (k + 1)) + 1 by omega, List.replicate_succ, List.set_append_right _ _ (by omega), List.take_succ_eq_append_getElem (by omega), h1, Nat.sub_self, List.append_assoc]
  rw [List.getD_eq_getElem?_getD, List.getElem?_eq_getElem (show k < xs.length by omega)]
  rfl
set_option maxRecDepth 100000 in
set_option maxHeartbeats 2000000 in
theorem mnew_any (w : World) (v : Value) (rows : List (List UInt8)) (n c : Nat) (hp : Parts w v rows) (hn : rows.length = n) (hc : ∀ i, i < n → (rows.getD i []).length = c) (h1 : 1 ≤ n) (h64 : n ≤ 64) (h1c : 1 ≤ c) (h64c : c ≤ 64) :
    Calls Try.prog 17 #[v] w fun e w' => ∃ P lv vs, e = .returned (.tuple #[.pointer (some ⟨P, 0, none⟩), .int .i64 0]) ∧ OM w w' P lv vs rows := by
  obtain ⟨a, cap, rfl, _⟩ := hp.opened
  obtain ⟨_, _, he, hcell⟩ := hp.opened
  cases he
  obtain ⟨b, o, u0, e, c0, s0⟩ := hcell 0 (by omega)
  subst e
  obtain ⟨a0, k0, rfl, _, _, _, _⟩ := s0.openB
  rw [hc 0 (by omega)] at c0
  rw [Nat.add_zero] at c0
  rw [hn] at hcell ⊢
  have HC := Lib.hid hcell
  have HL := Lib.hid hc
  have HN := Lib.hid hn
  have HC0 := Lib.hid c0
  have n1 : (1 : Int) ≤ n := by omega
  have n64 : (n : Int) ≤ 64 := by omega
  have c1' : (1 : Int) ≤ c := by omega
  have c64 : (c : Int) ≤ 64 := by omega
  have hbl := blank_any w n c h1 (by omega) h1c (by omega)
  clear hp hcell hc hn s0
  have hd1 : decide ((1 : Int) ≤ n) = true := decide_eq_true n1
  have hd2 : decide ((n : Int) ≤ 64) = true := decide_eq_true n64
  have hd3 : decide ((1 : Int) ≤ c) = true := decide_eq_true c1'
  have hd4 : decide ((c : Int) ≤ 64) = true := decide_eq_true c64
  go_enter Try.func17, Try.ntmps17
  go_wp2_with (first
    | (go_at_call 61; refine hbl.mono ?_; rintro e w2 ⟨P, G, vs, rfl, hOM, hFu⟩; clear hbl; replace c0 := (hOM.or.below.cell (World.block_lt_of_cell? _ _ c0)).trans c0)
    | (go_at_call 60; refine (msize_any _ _).mono ?_; rintro e w' ⟨rfl, rfl⟩))
  have HRS := Lib.hid (show ∀ k, k < n → (rows.take k ++ List.replicate (n - k) (List.replicate c (0 : UInt8))).set k (rows.getD k []) = rows.take (k + 1) ++ List.replicate (n - (k + 1)) (List.replicate c 0) from fun k hk => rows_fill rows _ k n hk HN.out)
  go_loopw [5, 6, 28] (fun _ _ i wr => ∃ (k : Nat) (rws : List (List UInt8)), k ≤ n ∧ Hid (rws = rows.take k ++ List.replicate (n - k) (List.replicate c 0)) ∧ i = .int .i64 k ∧ OM w' wr P (.slice (some ⟨G, 0, none⟩) n n) vs rws) (fun _ _ i _ => (n - intOf i).toNat)
  case atStart => exact ⟨0, _, by omega, rfl, rfl, by simpa using hOM⟩
  case round =>
    obtain ⟨k, rws, hk, hrws, rfl, hM⟩ := hrel
    clear hOM
    by_cases hlt : k < n
    · have hlt' : (k : Int) < n := by omega
      obtain ⟨b', o', u, e, ck, sk⟩ := HC.out k hlt
      cases e
      obtain ⟨ak, kk, rfl, _, _, _, rk⟩ := sk.openB
      obtain ⟨gb, ob, rfl, _⟩ := rk.byte 0 (by rw [HL.out k hlt]; omega)
      rw [HL.out k hlt] at ck
      replace ck := (hM.or.below.cell (World.block_lt_of_cell? _ _ ck)).trans ck
      have c0' := (hM.or.below.cell (World.block_lt_of_cell? _ _ HC0.out)).trans HC0.out
      clear c0
      have hrl : rws.length = n := by rw [hrws.out, List.length_append, List.length_take, List.length_replicate, HN.out]; omega
      have hk1 : k < rws.length := by omega
      obtain ⟨X, hX⟩ := hFu.out k hlt
      obtain ⟨_, hg, cz, fz, _, _⟩ := hM.or.at k hk1
      cases hg
      rw [hX] at cz
      have cP := hM.cell
      have hzk : (rws.getD k []).length = c := by
        rw [hrws.out, List.getD_eq_getElem?_getD, List.getElem?_append_right (by simp; omega), List.length_take, HN.out, Nat.min_eq_left hk, Nat.sub_self, List.getElem?_replicate, if_pos (by omega)]
        simp
      have hel := hM.or.el k hk1
      rw [hX, hzk] at hel
      have HEl := Lib.hid hel
      have HFi := Lib.hid (hM.fill k hk1 hX (rows.getD k []) (HL.out k hlt) hzk)
      have HRk := Lib.hid (show rws.set k (rows.getD k []) = rows.take (k + 1) ++ List.replicate (n - (k + 1)) (List.replicate c 0) by rw [hrws.out]; exact HRS.out k hlt)
      have Hk := Lib.hid (show k + 1 ≤ n from hlt)
      have hRd := Lib.hid (rk.below hM.or.below)
      have HLk := Lib.hid (HL.out k hlt)
      clear hM hel hrl hk1 hX hzk rk sk fz hk
      go_wp2_with (with_reducible refine wpL_copyR rfl _ _ rfl X c gb ob kk rfl rfl _ _ HEl.out (rows.getD k []) hRd.out HLk.out ?_)
      go_roundw
      case rel => exact ⟨k + 1, _, Hk.out, rfl, by go_num, by rw [← HRk.out]; exact HFi.out⟩
      case measure => have := Hk.out; simp [intOf]; omega
    · obtain rfl : k = n := by omega
      have hz : Hid (rws = rows) := by rw [Hid, hrws.out, Nat.sub_self, List.take_of_length_le (by rw [HN.out]; omega)]; simp
      rw [hz.out] at hM
      clear hlt hk
      go_wp2
      go_ret2
      exact ⟨_, _, _, rfl, hM⟩
end Go.Proofs.Ytllnocffmlagjaa
