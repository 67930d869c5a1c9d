/- Contract of bytes.Repeat: 64 times one byte. Conditions: a slice of one byte. -/
import Derived.Test.YtllnocffmlagjaaS0
import Derived.Lib.MakeNoZero
import Derived.Laws.Externs
import Derived.Laws.CopyOwn
import Derived.Deep.RegionLaw
set_option linter.unusedVariables false
namespace Go.Proofs.Ytllnocffmlagjaa
open Go.RowKit

set_option maxHeartbeats 400000 in
theorem mul64_one (w : World) : Calls Try.prog 105 #[.int .u64 1, .int .u64 64] w fun e w' => e = .returned (.tuple #[.int .u64 0, .int .u64 64]) ∧ w' = w := by
  go_enter Try.func105, Try.ntmps105
  go_wp2
  go_ret2
  exact ⟨rfl, rfl⟩

theorem wpL_copyB {ops : Array Oper} {rest : List Oper} {o : Oper} {a : Act} {w : World} {Q : Exit → Act → World → Prop} (hgd : o.guard = none) (d s : Operand)
    (ho : o.op = .call { callee := .builtin .copy, args := #[d, s], argTypes := #[22, 22] })
    (g off dLen dCap : Nat) (ad : Addr) (sLen sCap : Nat) (hd : a.eval d = .slice (some ⟨g, off, none⟩) dLen dCap) (hs : a.eval s = .slice (some ad) sLen sCap)
    (cur : Array Value) (t : TypeId) (hg : w.heap[g]? = some (.cells cur t (0, 0))) (cs : List Value) (hn : cs.length = Nat.min sLen dLen)
    (hsrc : ∀ j v, cs[j]? = some v → w.cell? (ad.add j) = some v) (hfit : off + cs.length ≤ cur.size) (h1 : ∀ v ∈ cs, v.oneCell' = true)
    (w0 : World) (hb : Below w0.heap.size w0 w) (hBg : w0.heap.size ≤ g)
    (h : ∀ w', Hid (w'.heap[g]? = some (.cells (splice cur.toList off cs).toArray t (0, 0))) → Below w0.heap.size w0 w' → wpList Try.prog ops Q rest (a.put o.dst (goInt cs.length)) w') :
    wpList Try.prog ops Q (o :: rest) a w :=
  wpList_copy_splice hgd d s 22 22 ho 5 Try.underlying22 (by kernel_rfl) _ _ dLen dCap sLen sCap hd hs g off cur.toList t hg cs hn (fun _ => ⟨rfl, _, rfl, hsrc⟩) (by simpa using hfit) h1 w0.heap.size w0 hb hBg h

def Src (w : World) (ad : Addr) (cs : List Value) : Prop := ∀ j v, cs[j]? = some v → w.cell? (ad.add j) = some v
theorem step_copyB {ops : Array Oper} {o : Oper} {a : Act} {w : World} {K : Act → World → Prop} {Q : Exit → Act → World → Prop} {E : Prop} (hgd : o.guard = none) (d s : Operand)
    (ho : o.op = .call { callee := .builtin .copy, args := #[d, s], argTypes := #[22, 22] })
    (g off dLen dCap : Nat) (ad : Addr) (sLen sCap : Nat) (hd : a.eval d = .slice (some ⟨g, off, none⟩) dLen dCap) (hs : a.eval s = .slice (some ad) sLen sCap)
    (cur : List Value) (t : TypeId) (hg : w.heap[g]? = some (.cells cur.toArray t (0, 0))) (cs : List Value) (N : Nat) (hN : cs.length = N) (hn : N = Nat.min sLen dLen)
    (hsrc : Src w ad cs) (hfit : off + N ≤ cur.length) (h1 : ∀ v ∈ cs, v.oneCell' = true)
    (w0 : World) (hb : Below w0.heap.size w0 w) (hBg : w0.heap.size ≤ g)
    (h : ∀ w', Hid (w'.heap[g]? = some (.cells (splice cur off cs).toArray t (0, 0))) → Below w0.heap.size w0 w' → K (a.put o.dst (goInt N)) w') :
    if Region.wanted o (yielded ops a.tmps) = true then Oper.wp Try.prog o a w K Q else E := by
  subst hN
  exact step_copy_splice hgd d s 22 22 ho 5 Try.underlying22 (by kernel_rfl) _ _ dLen dCap sLen sCap hd hs g off cur t hg cs hn (fun _ => ⟨rfl, _, rfl, hsrc⟩) hfit h1 w0.heap.size w0 hb hBg h

theorem pow_six : ∀ k, k < 6 → 1 ≤ 2 ^ k ∧ 2 ^ k ≤ 32 ∧ 2 ^ (k + 1) = 2 ^ k + 2 ^ k := by decide
set_option maxRecDepth 100000 in
set_option maxHeartbeats 2000000 in
theorem repeat64 (w : World) (v : Value) (x : UInt8) (hv : Sl w v (bv [x])) :
    Calls Try.prog 99 #[v, .int .i64 64] w fun e w' => ∃ r, e = .returned r ∧ Sl w' r (bv (List.replicate 64 x)) ∧ Below w.heap.size w w' := by
  obtain ⟨a, cap, rfl, h1, h2, h3, h4⟩ := hv.openB
  obtain ⟨b, o, rfl, hc0⟩ := h4.byte 0 (by simp)
  simp only [List.getD_cons_zero, Nat.add_zero] at hc0
  have hcall : ∀ W : World, ∃ cs : Array Value, (callFunc 106 #[.int .i64 64]).run Try.prog W = .ok (.value (.slice (some ⟨W.heap.size, 0, none⟩) 64 cs.size)) (W.drew.drew.alloc (.cells cs 5)) ∧ 64 ≤ cs.size := by
    intro W
    obtain ⟨cs, hrun, hle, hmax⟩ := Lib.run_makeNoZero (P := Try.prog) W #[3] 22 5 Try.underlying22 64 (by decide)
    refine ⟨cs, ?_, hle⟩
    rw [run_callFunc_extern Try.func106 (by kernel_rfl) (by kernel_rfl) (by kernel_rfl) (e := Extern.BytealgMakeNoZero.makeNoZero #[3] #[22]) (by kernel_rfl)]
    have hrun' : (Extern.BytealgMakeNoZero.makeNoZero #[3] #[22] #[.int .i64 64]).run Try.prog W = .ok (.slice (some ⟨W.heap.size, 0, none⟩) 64 cs.size) (W.drew.drew.alloc (.cells cs 5)) := hrun
    rw [hrun']; rfl
  obtain ⟨cs, hcl, hcs⟩ := hcall w
  have hbs : (Value.slice (some ⟨b, o, none⟩) [x].length cap) = .slice (some ⟨b, o, none⟩) 1 cap := rfl
  rw [hbs]
  have hne : ¬ cs.size = 0 := by omega
  clear h1 h2 h3 h4 hv hcall
  go_enter Try.func99, Try.ntmps99
  have hg := heap_alloc_new w.drew.drew (.cells cs 5)
  have h5 : Try.prog.underlying 22 = some (.slice 5) := Try.underlying22
  have hsz : (Try.prog.info? 5).map (·.size) = some 1 := by kernel_rfl
  have hc1 : ∀ j v, [Value.int .u8 (V8 x)][j]? = some v → ((w.alloc (.cells cs 5)).drew.drew).cell? ((⟨b, o, none⟩ : Addr).add j) = some v := by
    intro j v hj
    match j with
    | 0 =>
      cases hj
      exact (((Below.refl w.heap.size w).alloc (Nat.le_refl _) (.cells cs 5)).cell (World.block_lt_of_cell? _ _ hc0)).trans hc0
    | j + 1 => cases hj
  have h1c : ∀ v ∈ [Value.int .u8 (V8 x)], v.oneCell' = true := by simp [Value.oneCell']
  have hfit : 0 + [Value.int .u8 (V8 x)].length ≤ cs.size := by show 0 + 1 ≤ cs.size; omega
  have hcs' : 64 ≤ cs.toList.length := hcs
  have hb0 : Below w.heap.size w ((w.alloc (.cells cs 5)).drew.drew) := below_drewN (below_drewN ((Below.refl w.heap.size w).alloc (Nat.le_refl _) (.cells cs 5)) 1) 1
  replace hg : ((w.alloc (.cells cs 5)).drew.drew).heap[w.heap.size]? = some (.cells cs 5 (0, 0)) := hg
  go_wp2_with (first
    | (go_at_call 105; refine (mul64_one _).mono ?_; rintro e w1 ⟨rfl, rfl⟩)
    | (with_reducible refine wpL_copyB rfl _ _ rfl w1.heap.size 0 64 64 ⟨b, o, none⟩ 1 cap rfl rfl cs 5 hg [.int .u8 (V8 x)] rfl hc1 hfit h1c w1 hb0 (Nat.le_refl _) ?_; intro W hrow hb1))
  obtain ⟨L, hL1, hL2, hL3⟩ : ∃ L : List Value, splice cs.toList 0 [Value.int .u8 (V8 x)] = L ∧ 64 ≤ L.length ∧ ∀ i, i < 2 ^ 0 → L[i]? = some (.int .u8 (V8 x)) := by
    refine ⟨_, rfl, by rw [length_splice _ _ _ hfit]; exact hcs', fun i hi => ?_⟩
    obtain rfl : i = 0 := by simpa using hi
    simp [splice]
  rw [hL1] at hrow
  have HP := Lib.hid pow_six
  clear hc0 hfit hg hcl hL1 hne hcs hcs' hb0
  go_loopw [10, 11, 61] (fun bp _ _ wr => ∃ (k B : Nat) (L : List Value), k ≤ 6 ∧ Hid (B = 2 ^ k) ∧ bp = .int .i64 B ∧ 64 ≤ L.length ∧ Hid (∀ i, i < B → L[i]? = some (.int .u8 (V8 x))) ∧ wr.heap[w1.heap.size]? = some (.cells L.toArray 5 (0, 0)) ∧ Below w1.heap.size w1 wr) (fun bp _ _ _ => (64 - intOf bp).toNat)
  case atStart => exact ⟨0, 1, L, by omega, rfl, rfl, hL2, hL3, hrow.out, hb1⟩
  case round =>
    obtain ⟨k, B, L, hk, hB, rfl, hL2, hL3, hrow, hb1⟩ := hrel
    by_cases hlt : k < 6
    · obtain ⟨q1, q2, q3⟩ := HP.out k hlt
      rw [← hB.out] at q1 q2 q3
      have q4 : (B : Int) < 64 := by omega
      have q7 : (B : Int) ≤ 64 := by omega
      have q5 : ¬ (64 : Nat) = B := by omega
      have q6 : min (B : Int) 64 = B := by omega
      obtain ⟨CS, hCS⟩ : ∃ CS, CS = List.replicate B (Value.int .u8 (V8 x)) := ⟨_, rfl⟩
      have HN : CS.length = B := by rw [hCS, List.length_replicate]
      have HN2 : Hid (B = Nat.min B (64 - B)) := (Nat.min_eq_left (by omega)).symm
      have HSr : Src wr ⟨w1.heap.size, 0, none⟩ CS := by
        intro j v hj
        rw [hCS, List.getElem?_replicate] at hj
        split at hj
        · cases hj
          rename_i hjB
          rw [Addr.add_lit]
          rw [cell_of_row wr _ _ _ 5 (0, 0) hrow, List.getElem?_toArray, Nat.zero_add]; exact hL3.out j hjB
        · cases hj
      have HF : B + B ≤ L.length := by omega
      have H1 : Hid (∀ v ∈ CS, v.oneCell' = true) := by
        intro v hv; rw [hCS, List.mem_replicate] at hv; rw [hv.2]; rfl
      have HS1 : Hid (64 ≤ (splice L B CS).length ∧ ∀ i, i < B + B → (splice L B CS)[i]? = some (.int .u8 (V8 x))) := by
        refine ⟨by rw [length_splice _ _ _ (by omega)]; exact hL2, fun i hi => ?_⟩
        unfold splice
        have hl : (L.take B).length = B := by simp; omega
        by_cases h : i < B
        · rw [List.getElem?_append_left (by omega), List.getElem?_take, if_pos h]; exact hL3.out i h
        · rw [List.getElem?_append_right (by omega), List.getElem?_append_left (by omega), hl, hCS, List.getElem?_replicate, if_pos (by omega)]
      have Hk1 : Hid (k + 1 ≤ 6) := hlt
      clear hCS
      clear hlt
      go_wp2
      go_region_law (refine step_copyB rfl (.tmp 70) (.tmp 73) rfl w1.heap.size B (64 - B) (64 - B) ⟨w1.heap.size, 0, none⟩ B 64 (by simp [Act.eval, Act.put]) (by simp [Act.eval, Act.put]) L 5 hrow CS B HN HN2.out HSr HF H1.out w1 (below_drewN hb1 1) (Nat.le_refl _) ?_; intro W hrow2 hb2)
      go_simp
      have e1 : IntKind.i64.wrap ((B : Int) + B) = ((B + B : Nat) : Int) := by rw [IntWalk.i64_in _ (by omega)]; simp
      rw [e1]
      refine ⟨⟨_, _, _, _, _, _, _, _, _, _, _, _, _, _, _, _, _, ⟨k + 1, B + B, _, Hk1.out, by rw [Hid, q3], rfl, HS1.out.1, HS1.out.2, hrow2.out, hb2⟩, rfl⟩, ?_⟩
      simp [intOf]; omega
    · obtain rfl : k = 6 := by omega
      have hB64 : B = 64 := by rw [hB.out]
      obtain rfl := hB64
      replace hrow := Lib.hid hrow
      have hres : Hid (Sl wr (.slice (some ⟨w1.heap.size, 0, none⟩) 64 64) (bv (List.replicate 64 x))) := by
        refine ⟨some ⟨w1.heap.size, 0, none⟩, 64, by rw [bv_length, List.length_replicate], by rw [bv_length, List.length_replicate]; omega, by simp [maxLen], nofun, fun i hi => ⟨w1.heap.size, 0, rfl, ?_⟩⟩
        rw [bv_length, List.length_replicate] at hi
        rw [cell_of_row wr _ _ _ 5 (0, 0) hrow.out, List.getElem?_toArray, Nat.zero_add, hL3.out i hi, bv_getD _ _ (by rw [List.length_replicate]; exact hi)]
        rw [List.getD_eq_getElem?_getD, List.getElem?_replicate, if_pos hi]; rfl
      clear hlt hk hrow hL3
      go_wp2
      go_ret
      exact ⟨_, rfl, hres.out, hb1⟩
end Go.Proofs.Ytllnocffmlagjaa
