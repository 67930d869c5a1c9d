/- Contracts of seal.added and seal.Mark. Conditions: lengths within memory. -/
import Derived.Test.YtllnocffmlagjaaS1
import Derived.Test.YtllnocffmlagjaaL1
set_option linter.unusedVariables false
namespace Go.Proofs.Ytllnocffmlagjaa
open Go.RowKit

theorem Sl.nocell {w : World} {v : Value} {xs : List Value} (h : Sl w v xs) : v.oneCell' = true := by
  obtain ⟨a, cap, rfl, _⟩ := h; rfl
/-- A new slice of two byte slices. -/
theorem Parts.two (W : World) (u v : Value) (xa bs : List UInt8) (h : Sl W u (bv xa)) (h' : Sl W v (bv bs)) : Parts (W.alloc (.cells #[u, v] 22)) (.slice (some ⟨W.heap.size, 0, none⟩) 2 2) [xa, bs] := by
  refine ⟨[u, v], Sl_new W 22 [u, v] (by simp [maxLen]), rfl, fun i hi => ?_⟩
  have hb : Below W.heap.size W (W.alloc (.cells #[u, v] 22)) := (Below.refl _ W).alloc (Nat.le_refl _) _
  match i with
  | 0 => exact h.below hb
  | 1 => exact h'.below hb
  | i + 2 => simp at hi; omega
section
variable {ops : Array Oper} {rest : List Oper} {o : Oper} {a : Act} {Q : Exit → Act → World → Prop}
/-- append([][]byte{u}, parts...) -/
theorem wpL_parts (W : World) (hgd : o.guard = none) (s x : Operand)
    (ho : o.op = .call { callee := .builtin .append, args := #[s, x], argTypes := #[27, 27] })
    (u : Value) (bs : List UInt8) (hu : Sl W u (bv bs)) (hs : a.eval s = .slice (some ⟨W.heap.size, 0, none⟩) 1 1) (src : Value) (pss : List (List UInt8)) (hx : a.eval x = src) (hp : Parts W src pss)
    (n : Nat) (hn : 1 + pss.length = n) (hb : n ≤ 1000000000000)
    (h : ∀ A cap w', Parts w' (.slice A n cap) (bs :: pss) → Below W.heap.size W w' → wpList Try.prog ops Q rest (a.put o.dst (.slice A n cap)) w') :
    wpList Try.prog ops Q (o :: rest) a (W.alloc (.cells #[u] 22)) := by
  subst hn
  obtain ⟨vs, h1, h2, h3⟩ := hp
  have hal : Below W.heap.size W (W.alloc (.cells #[u] 22)) := (Below.refl _ W).alloc (Nat.le_refl _) _
  refine wpL_app _ hgd s x 27 22 _ 24 ho Try.underlying27 inf22 rfl (by decide) W.heap.size _ [u] hs (own_new W W.heap.size 22 [u] (by simp [maxLen]) (Nat.le_refl _)) _ _ hx (h1.below hal) ?_ (1 + pss.length) (by simp [h2]) (by omega) hal.size fun A cap w' h4 h5 _ _ => ?_
  · intro y hy
    obtain ⟨i, hi, rfl⟩ := List.getElem_of_mem hy
    have := (h3 i (by omega)).nocell
    rw [List.getD_eq_getElem?_getD, List.getElem?_eq_getElem hi] at this; exact this
  · have hB := hal.trans h5
    refine h A cap w' ⟨u :: vs, Sl.of_own (e := 22) (base := W.heap.size) (by simpa [h2, Nat.add_comm] using h4), by simp [h2], fun i hi => ?_⟩ hB
    match i with
    | 0 => exact hu.below hB
    | i + 1 => simpa using (h3 i (by simpa using hi)).below hB
end

def addK (k : List UInt8) (x : UInt8) : List UInt8 := xorL k (List.replicate 64 x)
theorem addK_length (k : List UInt8) (x : UInt8) (h : k.length = 64) : (addK k x).length = 64 := by simp [addK, xorL, h]
set_option maxRecDepth 100000 in
set_option maxHeartbeats 1000000 in
theorem added_any (w : World) (v : Value) (k : List UInt8) (X : Int) (x : UInt8) (hX : X = V8 x) (hv : Sl w v (bv k)) (hk : k.length = 64) :
    Calls Try.prog 80 #[v, .int .u8 X] w fun e w' => ∃ r, e = .returned r ∧ OB w w' r (addK k x) := by
  subst hX
  have hb : Below w.heap.size w (w.alloc (.cells #[.int .u8 (V8 x)] 5)) := (Below.refl _ w).alloc (Nat.le_refl _) _
  have hr := repeat64 (w.alloc (.cells #[.int .u8 (V8 x)] 5)) _ x (Sl_new w 5 [.int .u8 (V8 x)] (by simp [maxLen]))
  have hcall : Calls Try.prog 99 #[.slice (some ⟨w.heap.size, 0, none⟩) 1 1, .int .i64 64] (w.alloc (.cells #[.int .u8 (V8 x)] 5)) fun e w1 => ∃ r, e = .returned r ∧ Sl w1 r (bv (List.replicate 64 x)) ∧ Hid (Sl w1 v (bv k)) ∧ Hid (Below w.heap.size w w1) :=
    hr.mono fun e w' ⟨r, he, hs, hB⟩ => ⟨r, he, hs, hv.below (hb.trans (hB.mono hb.size)), hb.trans (hB.mono hb.size)⟩
  clear hr hb hv
  go_enter Try.func80, Try.ntmps80
  go_wp2_with (first
    | (go_at_call 99; refine hcall.mono ?_; rintro e w1 ⟨r, rfl, hs1, hv1, hB1⟩; clear hcall)
    | (go_at_call 98; refine (xor_any _ _ _ _ _ hv1.out hs1 64 hk (by rw [List.length_replicate]) (by omega)).mono ?_; rintro e w2 ⟨r2, rfl, hO2⟩))
  go_ret
  exact ⟨_, rfl, own_rebase hO2.1 hB1.out.size, below_then hB1.out hB1.out.size hO2.2⟩

def keyed (key : List UInt8) : List UInt8 := if 64 < key.length then sha key else key
theorem keyed_length (key : List UInt8) : (keyed key).length ≤ 64 := by
  unfold keyed; split
  · rw [sha_length]; omega
  · omega
def padK (key : List UInt8) : List UInt8 := keyed key ++ List.replicate (64 - (keyed key).length) 0
theorem padK_length (key : List UInt8) : (padK key).length = 64 := by
  have := keyed_length key
  simp [padK]; omega
def mark (key m : List UInt8) : List UInt8 := sha (addK (padK key) 92 ++ sha (addK (padK key) 54 ++ m))

/-- Mark, from where its key has 64 bytes at most. -/
theorem one_part (w : World) (v : Value) (bs : List UInt8) (h : Sl w v (bv bs)) (hl : bs.length ≤ 1000) :
    Calls Try.prog 13 #[.slice (some ⟨w.heap.size, 0, none⟩) 1 1] (w.alloc (.cells #[v] 22)) fun e w' => ∃ r, e = .returned r ∧ OB w w' r (sha bs) := by
  have hb : Below w.heap.size w (w.alloc (.cells #[v] 22)) := (Below.refl _ w).alloc (Nat.le_refl _) _
  refine (sum_any _ _ _ (Parts.one w v bs h) (by simp; omega) (by simp)).mono fun e w' ⟨r, he, ho⟩ => ⟨r, he, ?_⟩
  have e1 : [bs].flatten = bs := by simp
  rw [e1] at ho
  exact ⟨own_rebase ho.1 hb.size, hb.trans (ho.2.mono hb.size)⟩
theorem two_parts (w : World) (u v : Value) (xa bs : List UInt8) (h : Sl w u (bv xa)) (h' : Sl w v (bv bs)) (hl : xa.length + bs.length ≤ 1000) :
    Calls Try.prog 13 #[.slice (some ⟨w.heap.size, 0, none⟩) 2 2] (w.alloc (.cells #[u, v] 22)) fun e w' => ∃ r, e = .returned r ∧ OB w w' r (sha (xa ++ bs)) := by
  have hb : Below w.heap.size w (w.alloc (.cells #[u, v] 22)) := (Below.refl _ w).alloc (Nat.le_refl _) _
  refine (sum_any _ _ _ (Parts.two w u v xa bs h h') (by simp; omega) (by simp)).mono fun e w' ⟨r, he, ho⟩ => ⟨r, he, ?_⟩
  have e1 : [xa, bs].flatten = xa ++ bs := by simp
  rw [e1] at ho
  exact ⟨own_rebase ho.1 hb.size, hb.trans (ho.2.mono hb.size)⟩

set_option maxRecDepth 100000 in
set_option maxHeartbeats 1000000 in
theorem mark_any (w : World) (v pv : Value) (key : List UInt8) (pss : List (List UInt8)) (hv : Sl w v (bv key)) (hp : Parts w pv pss) (hk : key.length ≤ 1000) (hl : pss.flatten.length ≤ 140737488350000) (hn : pss.length ≤ 1000000) :
    Calls Try.prog 42 #[v, pv] w fun e w' => ∃ r, e = .returned r ∧ OB w w' r (mark key pss.flatten) := by
  have hkl := keyed_length key
  have hpl := padK_length key
  have hpd : padK key = keyed key ++ List.replicate (64 - (keyed key).length) 0 := rfl
  obtain ⟨ap, cp, rfl, _⟩ := hp.opened
  unfold mark
  obtain ⟨n, hn'⟩ : ∃ n, pss.length = n := ⟨_, rfl⟩
  have HN := Lib.hid hn'
  rw [hn'] at hn hp ⊢
  have HL := Lib.hid hl
  have HP := Lib.hid hp
  have hn2 : (n : Int) ≤ 1000000 := by omega
  by_cases hc : 64 < key.length
  · have hc' : (64 : Int) < key.length := by omega
    have hk1 : keyed key = sha key := if_pos hc
    have hone := one_part w v key hv hk
    obtain ⟨a, cap, rfl, _, _, _, _⟩ := hv.openB
    rw [hk1] at hkl hpd
    generalize sha key = kk at *
    generalize padK key = pk at *
    have HPD := Lib.hid hpd
    clear hp hl hn' hk hk1 hpd
    have hkl' : (kk.length : Int) ≤ 64 := by omega
    go_enter Try.func42, Try.ntmps42
    go_wp2_with (first
      | (go_at_call 13; refine hone.mono ?_; rintro e w1 ⟨r1, rfl, hO1⟩; clear hone; obtain ⟨A1, c1, rfl⟩ := hO1.shape)
      | (go_at_call 78; refine (clone_ob w _ hO1.2 _ kk hO1.sl (by omega)).mono ?_; rintro e w3 ⟨r3, rfl, _, hO3⟩; obtain ⟨A3, c3, rfl⟩ := hO3.shape)
      | (at_builtin; refine wpL_zeros w _ rfl _ _ rfl _ _ rfl hO3 _ (64 - kk.length) (by omega) rfl 64 (by omega) (by omega) ?_; intro A4 c4 w4 hO4; rw [← HPD.out] at hO4)
      | (go_at_call 80; refine (added_any w6 _ pk _ 92 rfl hS4 hpl).mono ?_; rintro e w7 ⟨r7, rfl, hO7⟩; obtain ⟨A7, c7, rfl⟩ := hO7.shape; have hP7 := hP6.below hO7.2; have hB7 := below_then hB6 hB6.size hO7.2)
      | (go_at_call 80; refine (added_any w4 _ pk _ 54 rfl hO4.sl hpl).mono ?_; rintro e w5 ⟨r5, rfl, hO5⟩; obtain ⟨A5, c5, rfl⟩ := hO5.shape; have hB5 := below_then hO4.2 hO4.2.size hO5.2)
      | (at_builtin; refine wpL_parts w5 rfl _ _ rfl _ (addK pk 54) hO5.sl rfl (.slice ap n cp) pss rfl (HP.out.below hB5) (n + 1) (by have := HN.out; omega) (by omega) ?_; intro A6 c6 w6 hP6 hb6; have hB6 := below_then hB5 hB5.size hb6; have hS4 := (hO4.later hO5.2).sl.below hb6)
      | (go_at_call 13; refine (two_parts w8 _ _ _ _ (hO7.later hO8.2).sl hO8.sl (by rw [sha_length, addK_length pk 92 hpl]; omega)).mono ?_; rintro e w9 ⟨r9, rfl, hO9⟩)
      | (go_at_call 13; refine (sum_any w7 _ _ hP7 (by have := HL.out; have := addK_length pk 54 hpl; simp only [List.flatten_cons, List.length_append]; omega) (by have := HN.out; simp only [List.length_cons]; omega)).mono ?_; rintro e w8 ⟨r8, rfl, hO8⟩; obtain ⟨A8, c8, rfl⟩ := hO8.shape; have hB8 := below_then hB7 hB7.size hO8.2))
    go_ret
    exact ⟨_, rfl, own_rebase hO9.1 hB8.size, below_then hB8 hB8.size hO9.2⟩
  · have hc' : (key.length : Int) ≤ 64 := by omega
    have hk1 : keyed key = key := if_neg hc
    have HV := Lib.hid hv
    obtain ⟨a, cap, rfl, _, _, _, _⟩ := hv.openB
    rw [hk1] at hkl hpd
    generalize padK key = pk at *
    generalize hkk : key = kk at *
    have HPD := Lib.hid hpd
    clear hp hl hn' hk hk1 hpd
    have hkl' : (kk.length : Int) ≤ 64 := by omega
    have HB0 := Lib.hid (Below.refl w.heap.size w)
    go_enter Try.func42, Try.ntmps42
    go_wp2_with (first
      | (go_at_call 78; refine (clone_ob w _ HB0.out _ kk HV.out (by omega)).mono ?_; rintro e w3 ⟨r3, rfl, _, hO3⟩; obtain ⟨A3, c3, rfl⟩ := hO3.shape)
      | (at_builtin; refine wpL_zeros w _ rfl _ _ rfl _ _ rfl hO3 _ (64 - kk.length) (by omega) rfl 64 (by omega) (by omega) ?_; intro A4 c4 w4 hO4; rw [← HPD.out] at hO4)
      | (go_at_call 80; refine (added_any w6 _ pk _ 92 rfl hS4 hpl).mono ?_; rintro e w7 ⟨r7, rfl, hO7⟩; obtain ⟨A7, c7, rfl⟩ := hO7.shape; have hP7 := hP6.below hO7.2; have hB7 := below_then hB6 hB6.size hO7.2)
      | (go_at_call 80; refine (added_any w4 _ pk _ 54 rfl hO4.sl hpl).mono ?_; rintro e w5 ⟨r5, rfl, hO5⟩; obtain ⟨A5, c5, rfl⟩ := hO5.shape; have hB5 := below_then hO4.2 hO4.2.size hO5.2)
      | (at_builtin; refine wpL_parts w5 rfl _ _ rfl _ (addK pk 54) hO5.sl rfl (.slice ap n cp) pss rfl (HP.out.below hB5) (n + 1) (by have := HN.out; omega) (by omega) ?_; intro A6 c6 w6 hP6 hb6; have hB6 := below_then hB5 hB5.size hb6; have hS4 := (hO4.later hO5.2).sl.below hb6)
      | (go_at_call 13; refine (two_parts w8 _ _ _ _ (hO7.later hO8.2).sl hO8.sl (by rw [sha_length, addK_length pk 92 hpl]; omega)).mono ?_; rintro e w9 ⟨r9, rfl, hO9⟩)
      | (go_at_call 13; refine (sum_any w7 _ _ hP7 (by have := HL.out; have := addK_length pk 54 hpl; simp only [List.flatten_cons, List.length_append]; omega) (by have := HN.out; simp only [List.length_cons]; omega)).mono ?_; rintro e w8 ⟨r8, rfl, hO8⟩; obtain ⟨A8, c8, rfl⟩ := hO8.shape; have hB8 := below_then hB7 hB7.size hO8.2))
    go_ret
    exact ⟨_, rfl, own_rebase hO9.1 hB8.size, below_then hB8 hB8.size hO9.2⟩
end Go.Proofs.Ytllnocffmlagjaa
