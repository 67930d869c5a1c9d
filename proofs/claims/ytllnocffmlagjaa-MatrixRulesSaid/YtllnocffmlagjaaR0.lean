/- Contract of ref07.power. Conditions: a number of 64 bits; the power 3 at most. -/
import Derived.Test.YtllnocffmlagjaaM3
set_option linter.unusedVariables false
namespace Go.Proofs.Ytllnocffmlagjaa
open Go.RowKit

/-! ### slices of 64-bit numbers -/
def dv (ds : List Nat) : List Value := ds.map fun (d : Nat) => .int .u64 (d : Int)
theorem dv_length (ds : List Nat) : (dv ds).length = ds.length := by simp [dv]
theorem dv_append (a b : List Nat) : dv (a ++ b) = dv a ++ dv b := by simp [dv]
theorem dv_one (ds : List Nat) : ∀ u ∈ dv ds, u.oneCell' = true := by
  intro u hu
  simp only [dv, List.mem_map] at hu
  obtain ⟨_, _, rfl⟩ := hu
  rfl
theorem inf71 : (Try.prog.info? 71).map (fun i => (i.zero, i.size, i.bytes)) = some (some (.int .u64 0), 1, 8) := by kernel_rfl
/-- A row of 64-bit numbers of the call's own. -/
def OD (w0 wr : World) (v : Value) (ds : List Nat) : Prop := wr.ownsRow w0.heap.size 71 1 v ds.length (dv ds) ∧ Below w0.heap.size w0 wr
theorem OD.own {w0 wr : World} {v : Value} {ds : List Nat} (h : OD w0 wr v ds) : wr.ownsRow w0.heap.size 71 1 v (dv ds).length (dv ds) := by
  rw [dv_length]; exact h.1
theorem OD.sl {w0 wr : World} {v : Value} {ds : List Nat} (h : OD w0 wr v ds) : Sl wr v (dv ds) := Sl.of_own h.own
theorem OD.shape {w0 wr : World} {v : Value} {ds : List Nat} (h : OD w0 wr v ds) : ∃ A cap, v = .slice A ds.length cap := own_shape h.1
theorem OD.later {w0 wr w' : World} {v : Value} {ds : List Nat} (h : OD w0 wr v ds) (hb : Below wr.heap.size wr w') : OD w0 w' v ds :=
  ⟨own_below h.1 hb, below_then h.2 h.2.size hb⟩
theorem OD.drewN {w0 wr : World} {v : Value} {ds : List Nat} (h : OD w0 wr v ds) (n : Nat) : OD w0 (wr.drewN n) v ds := ⟨h.1, below_drewN h.2 n⟩
theorem OD.cell {w0 wr : World} {A : Option Addr} {n cap : Nat} {ds : List Nat} (h : OD w0 wr (.slice A n cap) ds) (i : Nat) (hi : i < ds.length) :
    ∃ b o, A = some ⟨b, o, none⟩ ∧ wr.cell? ⟨b, o + i, none⟩ = some (.int .u64 (ds.getD i 0 : Nat)) := by
  obtain ⟨a, c, he, _, _, _, hr⟩ := h.sl
  cases he
  obtain ⟨b, o, ha, hc⟩ := hr i (by rw [dv_length]; exact hi)
  refine ⟨b, o, ha, ?_⟩
  rw [hc]
  simp [dv, List.getD_eq_getElem?_getD, hi]
theorem OD.new (W : World) (ds : List Nat) (h : ds.length ≤ maxLen) {w0 : World} (hb : Below w0.heap.size w0 W) : OD w0 (W.alloc (.cells (dv ds).toArray 71)) (.slice (some ⟨W.heap.size, 0, none⟩) ds.length ds.length) ds := by
  have := own_new W w0.heap.size 71 (dv ds) (by rw [dv_length]; exact h) hb.size
  rw [dv_length] at this
  exact ⟨this, hb.alloc hb.size _⟩
section
variable {ops : Array Oper} {rest : List Oper} {o : Oper} {a : Act} {Q : Exit → Act → World → Prop}
/-- append(out, y) -/
theorem wpL_pushD (w0 W : World) (hgd : o.guard = none) (s x : Operand)
    (ho : o.op = .call { callee := .builtin .append, args := #[s, x], argTypes := #[81, 81] })
    (v : Value) (ds : List Nat) (hs : a.eval s = v) (hOB : OD w0 W v ds) (Y : Int) (y : Nat) (hY : Y = y) (hx : a.eval x = .slice (some ⟨W.heap.size, 0, none⟩) 1 1)
    (n : Nat) (hn : ds.length + 1 = n) (hb : n ≤ 1000000)
    (h : ∀ A cap w', OD w0 w' (.slice A n cap) (ds ++ [y]) → wpList Try.prog ops Q rest (a.put o.dst (.slice A n cap)) w') :
    wpList Try.prog ops Q (o :: rest) a (W.alloc (.cells #[.int .u64 Y] 71)) := by
  subst hY; subst hn
  have hal : Below W.heap.size W (W.alloc (.cells #[.int .u64 (y : Int)] 71)) := (Below.refl _ W).alloc (Nat.le_refl _) _
  refine wpL_app _ hgd s x 81 71 _ 8 ho Try.underlying81 inf71 rfl (by decide) w0.heap.size v (dv ds) hs (own_below hOB.own hal) _ _ hx
    (Sl_new W 71 [.int .u64 (y : Int)] (by simp [maxLen])) (by simp [Value.oneCell']) (ds.length + 1) (by simp [dv_length]) (by omega) (Nat.le_trans hOB.2.size hal.size) fun A cap w' h1 h2 _ _ => ?_
  refine h A cap w' ⟨?_, (below_then hOB.2 hOB.2.size hal).trans h2⟩
  have e : dv ds ++ [.int .u64 (y : Int)] = dv (ds ++ [y]) := by simp [dv]
  rw [e] at h1
  simpa using h1
end

theorem mac_wrap (C d x : Nat) : IntKind.u64.wrap ((C : Int) + IntKind.u64.wrap ((d : Int) * x)) = (((C + d * x) % 2 ^ 64 : Nat) : Int) := by
  rw [IntKind.wrap_u64, IntKind.wrap_u64]
  have e : (d : Int) * x = ((d * x : Nat) : Int) := by simp
  rw [e]
  omega

/-! ### the law -/
def tailD : Nat → Nat → List Nat
  | 0, _ => []
  | f + 1, c => if c = 0 then [] else (c % 65536) :: tailD f (c / 65536)
def mulD : List Nat → Nat → Nat → List Nat
  | [], _, c => tailD 4 c
  | d :: ds, x, c => ((c + d * x) % 2 ^ 64 % 65536) :: mulD ds x ((c + d * x) % 2 ^ 64 / 65536)
def powL (x : Nat) : Nat → List Nat
  | 0 => [1]
  | k + 1 => mulD (powL x k) x 0
theorem tailD_len (f c : Nat) : (tailD f c).length ≤ f := by
  induction f generalizing c with
  | zero => simp [tailD]
  | succ f ih => unfold tailD; split <;> simp; exact ih _
theorem mulD_len (ds : List Nat) (x c : Nat) : (mulD ds x c).length ≤ ds.length + 4 := by
  induction ds generalizing c with
  | nil => exact tailD_len 4 c
  | cons d ds ih => simp only [mulD, List.length_cons]; have := ih ((c + d * x) % 2 ^ 64 / 65536); omega
theorem powL_len (x k : Nat) : (powL x k).length ≤ 4 * k + 1 := by
  induction k with
  | zero => simp [powL]
  | succ k ih => have := mulD_len (powL x k) x 0; simp only [powL]; omega
/-- What is yet to come in a row's product. -/
def MulAt (ds : List Nat) (x : Nat) (i c : Nat) (rest : List Nat) : Prop :=
  (i < ds.length ∧ rest = mulD (ds.drop i) x c) ∨ (ds.length ≤ i ∧ ∃ f, f ≤ 4 ∧ c < 65536 ^ f ∧ rest = tailD f c)
theorem MulAt.start (ds : List Nat) (x : Nat) : MulAt ds x 0 0 (mulD ds x 0) := by
  cases ds with
  | nil => exact .inr ⟨Nat.le_refl _, 4, by decide, by decide, rfl⟩
  | cons d ds => exact .inl ⟨by simp, rfl⟩
theorem MulAt.len {ds : List Nat} {x i c : Nat} {rest : List Nat} (h : MulAt ds x i c rest) : rest.length ≤ ds.length + 4 := by
  rcases h with ⟨h1, rfl⟩ | ⟨h1, f, hf, hc, rfl⟩
  · have := mulD_len (ds.drop i) x c; simp at this; omega
  · have := tailD_len f c; omega
theorem MulAt.in {ds : List Nat} {x i c : Nat} {rest : List Nat} (h : MulAt ds x i c rest) (hi : i < ds.length) :
    ∃ r2, rest = ((c + ds.getD i 0 * x) % 2 ^ 64 % 65536) :: r2 ∧ MulAt ds x (i + 1) ((c + ds.getD i 0 * x) % 2 ^ 64 / 65536) r2 := by
  rcases h with ⟨h1, rfl⟩ | ⟨h1, _⟩
  · rw [List.drop_eq_getElem_cons hi, mulD]
    have e : ds[i] = ds.getD i 0 := by simp [List.getD_eq_getElem?_getD, hi]
    rw [e]
    refine ⟨_, rfl, ?_⟩
    by_cases h2 : i + 1 < ds.length
    · exact .inl ⟨h2, rfl⟩
    · refine .inr ⟨by omega, 4, Nat.le_refl _, ?_, ?_⟩
      · have : (c + ds.getD i 0 * x) % 2 ^ 64 < 2 ^ 64 := Nat.mod_lt _ (by decide)
        have : (65536 : Nat) ^ 4 = 2 ^ 64 := by decide
        omega
      · rw [List.drop_eq_nil_of_le (by omega)]; rfl
  · omega
theorem MulAt.out {ds : List Nat} {x i c : Nat} {rest : List Nat} (h : MulAt ds x i c rest) (hi : ds.length ≤ i) (hc : 0 < c) :
    ∃ r2, rest = (c % 65536) :: r2 ∧ MulAt ds x (i + 1) (c / 65536) r2 := by
  rcases h with ⟨h1, _⟩ | ⟨h1, f, hf, hcf, rfl⟩
  · omega
  · cases f with
    | zero => simp at hcf; omega
    | succ f =>
      refine ⟨_, by rw [tailD, if_neg (by omega)], .inr ⟨by omega, f, by omega, ?_, rfl⟩⟩
      rw [Nat.pow_succ] at hcf
      exact Nat.div_lt_of_lt_mul (by rw [Nat.mul_comm]; exact hcf)
theorem MulAt.end {ds : List Nat} {x i : Nat} {rest : List Nat} (h : MulAt ds x i 0 rest) (hi : ds.length ≤ i) : rest = [] := by
  rcases h with ⟨h1, _⟩ | ⟨h1, f, hf, hcf, rfl⟩
  · omega
  · cases f with
    | zero => rfl
    | succ f => rw [tailD, if_pos rfl]

set_option maxHeartbeats 1000000 in
theorem power_any (w : World) (x n : Nat) (hx : x < 18446744073709551616) (hn : n ≤ 3) :
    Calls Try.prog 102 #[.int .u64 x, .int .i64 n] w fun e w' => ∃ r, e = .returned r ∧ OD w w' r (powL x n) := by
  have hnew : OD w (w.alloc (.cells #[.int .u64 1] 71)) (.slice (some ⟨w.heap.size, 0, none⟩) 1 1) [1] := OD.new w [1] (by simp [maxLen]) (Below.refl _ _)
  go_enter Try.func102, Try.ntmps102
  go_wp2
  go_loopw [1, 5, 6, 7, 8] (fun m out _ _ _ wr => ∃ (k : Nat) (ds : List Nat), k ≤ n ∧ m = .int .i64 ((n - k : Nat) : Int) ∧ Hid (ds = powL x k) ∧ OD w wr out ds) (fun m _ _ _ _ _ => (intOf m).toNat)
  case atStart => exact ⟨0, _, by omega, rfl, rfl, hnew⟩
  case round =>
    obtain ⟨k, ds, hk, rfl, hds, hOD⟩ := hrel
    by_cases hlt : k < n
    · have hlen : ds.length ≤ 4 * k + 1 := by rw [hds.out]; exact powL_len x k
      have hstep : Hid (mulD ds x 0 = powL x (k + 1)) := by rw [Hid, hds.out]; rfl
      have hm : 0 < ((n - k : Nat) : Int) := by omega
      obtain ⟨M, hM⟩ : ∃ M : Int, ((n - k : Nat) : Int) = M := ⟨_, rfl⟩
      have hM' : Hid (((n - (k + 1) : Nat) : Int) = M - 1) := by rw [Hid]; omega
      have hM3 : M ≤ 3 := by omega
      rw [hM] at hm ⊢
      obtain ⟨A, cap, rfl⟩ := hOD.shape
      have hnx : OD wr (wr.alloc (.cells #[] 71)) (.slice (some ⟨wr.heap.size, 0, none⟩) 0 0) [] := OD.new wr [] (by simp [maxLen]) (Below.refl _ _)
      have hL : ds.length ≤ 13 := by omega
      have HC := Lib.hid (fun i h => hOD.cell i h)
      have HD := Lib.hid hOD
      obtain ⟨L, hLe⟩ : ∃ L, L = mulD ds x 0 := ⟨_, rfl⟩
      have hLl : L.length ≤ ds.length + 4 := by rw [hLe]; exact mulD_len _ _ _
      have hst := MulAt.start ds x
      rw [← hLe] at hstep hst
      have Hk : Hid (k + 1 ≤ n) := hlt
      clear hOD hlen hlt hk hLe
      go_wp2
      go_loopw [6, 7, 8] (fun nx c i wi => ∃ (j C : Nat) (ns rest : List Nat), c = .int .u64 C ∧ i = .int .i64 j ∧ C < 18446744073709551616 ∧ ns.length = j ∧ Hid (ns ++ rest = L) ∧ j + rest.length ≤ 17 ∧ MulAt ds x j C rest ∧ OD wr wi nx ns) (fun _ _ i _ => (64 - intOf i).toNat)
      case atStart => exact ⟨0, 0, [], L, rfl, rfl, by omega, rfl, rfl, by omega, hst, hnx⟩
      case round =>
        obtain ⟨j, C, ns, rest, rfl, rfl, hC, hj, hL2, hjl, hM, hO⟩ := hrel
        obtain ⟨A2, cap2, rfl⟩ := hO.shape
        by_cases hin : j < ds.length
        · obtain ⟨b, o, rfl, hcell⟩ := HC.out j hin
          replace hcell := (hO.2.cell (World.block_lt_of_cell? _ _ hcell)).trans hcell
          obtain ⟨r2, hr2, hM2⟩ := hM.in hin
          have hin' : (j : Int) < ds.length := by omega
          generalize ds.getD j 0 = d at *
          have hjl2 : j + 1 + r2.length ≤ 17 := by rw [hr2] at hjl; simp at hjl; omega
          rw [hr2] at hL2
          have hj17 : (j : Int) ≤ 17 := by omega
          clear hM hr2 hjl hst hnx hLl
          have hw : IntKind.u64.wrap ((C : Int) + IntKind.u64.wrap ((d : Int) * x)) = (((C + d * x) % 2 ^ 64 : Nat) : Int) := mac_wrap C d x
          have hCC : (C + d * x) % 2 ^ 64 < 18446744073709551616 := Nat.mod_lt _ (by decide)
          generalize (C + d * x) % 2 ^ 64 = CC at *
          have HM2 := Lib.hid hM2
          have hL3 : Hid ((ns ++ [CC % 65536]) ++ r2 = L) := by rw [Hid, List.append_assoc]; exact hL2.out
          clear hM2 hL2
          go_wp2_with (at_builtin; refine wpL_pushD _ _ rfl _ _ rfl _ _ rfl hO _ (CC % 65536) (by omega) rfl _ rfl (by omega) ?_; intro A3 cap3 w3 hO3)
          rw [hj] at hO3
          exact ⟨⟨j + 1, CC / 65536, _, r2, by simp, by simp, by omega, by simp [hj], hL3, hjl2, HM2.out, hO3⟩, by simp [intOf]; omega⟩
        · have hin' : ¬ ((j : Int) < ds.length) := by omega
          have hin2 : ds.length ≤ j := by omega
          by_cases hc0 : 0 < C
          · obtain ⟨r2, hr2, hM2⟩ := hM.out hin2 hc0
            have hc0' : (0 : Int) < C := by omega
            have hjl2 : j + 1 + r2.length ≤ 17 := by rw [hr2] at hjl; simp at hjl; omega
            rw [hr2] at hL2
            have hj17 : (j : Int) ≤ 17 := by omega
            clear hM hr2 hjl hst hnx hLl
            have HM2 := Lib.hid hM2
            have hL3 : Hid ((ns ++ [C % 65536]) ++ r2 = L) := by rw [Hid, List.append_assoc]; exact hL2.out
            clear hM2 hL2
            go_wp2_with (at_builtin; refine wpL_pushD _ _ rfl _ _ rfl _ _ rfl hO _ (C % 65536) (by omega) rfl _ rfl (by omega) ?_; intro A3 cap3 w3 hO3)
            rw [hj] at hO3
            exact ⟨⟨j + 1, C / 65536, _, r2, by simp, by simp, by omega, by simp [hj], hL3, hjl2, HM2.out, hO3⟩, by simp [intOf]; omega⟩
          · obtain rfl : C = 0 := by omega
            have he := hM.end hin2
            subst he
            have hns : Hid (ns = L) := by rw [Hid, ← hL2.out, List.append_nil]
            have HOD2 : Hid (OD w wr (.slice A2 ns.length cap2) ns) := by
              exact ⟨own_rebase hO.1 HD.out.2.size, below_then HD.out.2 HD.out.2.size hO.2⟩
            clear hM hst hnx hLl hc0
            go_wp2
            have hkn := Hk.out
            exact ⟨⟨k + 1, ns, Hk.out, by rw [hM'.out], by rw [Hid, hns.out, hstep.out], HOD2.out⟩, by simp [intOf]; omega⟩
    · obtain rfl : k = n := by omega
      have hz : ((k - k : Nat) : Int) = 0 := by omega
      have hres := hOD
      rw [hds.out] at hres
      rw [hz]
      clear hlt hk hOD hz
      go_wp2
      go_ret
      exact ⟨_, rfl, hres⟩
end Go.Proofs.Ytllnocffmlagjaa
