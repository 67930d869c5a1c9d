/- Contract of ref07.Sum. Conditions: the bytes within the machine's reach. -/
import Derived.Test.YtllnocffmlagjaaR8
set_option linter.unusedVariables false
namespace Go.Proofs.Ytllnocffmlagjaa
open Go.RowKit
attribute [local go_sem] flowAt flowUpon v32_xor v32_or v32_and v32_not v32_add v32_addm v32_div8 v32_div1024 u32_unsigned

theorem wpL_push4 {ops : Array Oper} {rest : List Oper} {o : Oper} {a : Act} {Q : Exit → Act → World → Prop} (w0 W : World) (hgd : o.guard = none) (s x : Operand)
    (ho : o.op = .call { callee := .builtin .append, args := #[s, x], argTypes := #[22, 22] })
    (v : Value) (bs : List UInt8) (hs : a.eval s = v) (hOB : OB w0 W v bs) (y : UInt32) (Y0 Y1 Y2 Y3 : Int) (h0 : Y0 = V8 ((be4 y).getD 0 0)) (h1 : Y1 = V8 ((be4 y).getD 1 0)) (h2 : Y2 = V8 ((be4 y).getD 2 0)) (h3 : Y3 = V8 ((be4 y).getD 3 0))
    (hx : a.eval x = .slice (some ⟨W.heap.size, 0, none⟩) 4 4) (n : Nat) (hn : bs.length + 4 = n) (hb : n ≤ 140737488355328)
    (h : ∀ A cap w', OB w0 w' (.slice A n cap) (bs ++ be4 y) → wpList Try.prog ops Q rest (a.put o.dst (.slice A n cap)) w') :
    wpList Try.prog ops Q (o :: rest) a (W.alloc (.cells #[.int .u8 Y0, .int .u8 Y1, .int .u8 Y2, .int .u8 Y3] 5)) := by
  subst h0 h1 h2 h3
  have hal : Below W.heap.size W (W.alloc (.cells (bv (be4 y)).toArray 5)) := (Below.refl _ W).alloc (Nat.le_refl _) _
  exact wpL_cat w0 (W.alloc (.cells (bv (be4 y)).toArray 5)) hgd s x ho v bs hs (hOB.later hal) _ (be4 y) hx (Sl_new W 5 (bv (be4 y)) (by simp [bv, be4, maxLen])) n hn hb h
theorem b4 (y : UInt32) : V32 y / 16777216 % 256 = V8 ((be4 y).getD 0 0) ∧ V32 y / 65536 % 256 = V8 ((be4 y).getD 1 0) ∧ V32 y / 256 % 256 = V8 ((be4 y).getD 2 0) ∧ V32 y % 256 = V8 ((be4 y).getD 3 0) := by
  have h0 := be4_at y 0 (by decide)
  have h1 := be4_at y 1 (by decide)
  have h2 := be4_at y 2 (by decide)
  have h3 := be4_at y 3 (by decide)
  rw [IntKind.wrap_u8] at h0 h1 h2 h3
  refine ⟨h0, h1, h2, ?_⟩
  rw [← h3]; simp
theorem run_index73 (w : World) (cs : Array Value) (k : Nat) (v : Value) (h : cs[k]? = some v) (hk : k < 8) : (Instr.index 73 (.agg cs) (.int .i64 k)).run Try.prog w = .ok v w := by
  have h0 : ¬ 8 ≤ k := by omega
  simp [Instr.index, run_underlying Try.underlying73, asIntOf, h0, go_sem, part, h]

set_option maxRecDepth 100000 in
set_option maxHeartbeats 1000000 in
theorem rsum_any (w : World) (v : Value) (bs : List UInt8) (hv : Sl w v (bv bs)) (hl : bs.length ≤ 140737488354000) :
    Calls Try.prog 14 #[v] w fun e w' => ∃ r, e = .returned r ∧ OB w w' r (sha bs) := by
  obtain ⟨a0, c0, rfl, hc1, hc2, hc3, _⟩ := hv.openB
  have HV := Lib.hid hv
  obtain ⟨n, hn⟩ : ∃ n, bs.length = n := ⟨_, rfl⟩
  rw [hn] at hl HV hc1 ⊢
  have HN := Lib.hid hn
  clear hv hn hc1 hc2 hc3
  go_enter Try.func14, Try.ntmps14
  go_wp2_with (first
    | (with_reducible refine wpL_build rfl 80 _ rfl (.agg (arr64 [])) (by kernel_rfl) ?_)
    | (with_reducible refine wpL_build rfl 73 _ rfl (.agg (arrP 8 [])) (by kernel_rfl) ?_)
    | (with_reducible refine wpL_storeRow rfl 80 _ _ rfl w.heap.size rfl (arr64 []) rfl 80 _ (heap_alloc2_old w _ _) (by kernel_rfl) (inf80 _ (by kernel_rfl)) (arr64_one _) ?_)
    | (with_reducible refine wpL_storeRow rfl 73 _ _ rfl (w.heap.size + 1) rfl (arrP 8 []) rfl 73 _ ((setRow_other _ _ _ _ (by simp)).trans (heap_alloc2_new w _ _)) (by kernel_rfl) (inf73 _ (by kernel_rfl)) (arrP_one _ _) ?_)
    | (go_at_call 55; refine (primes_any _).mono ?_; rintro e w1 ⟨r, rfl, hO1⟩; obtain ⟨Ap, cp, rfl⟩ := hO1.shape))
  have hK0 := (kh_start w _ _).later hO1.2
  obtain ⟨bp, op, hp0, hp1, hp2⟩ : ∃ b o, Ap = some ⟨b, o, none⟩ ∧ w.heap.size + 2 ≤ b ∧ PrAt b o w1 := by
    obtain ⟨b, o, rfl, h0⟩ := hO1.cell 0 (by decide)
    refine ⟨b, o, rfl, ?_, fun i hi => ?_⟩
    · rcases hO1.1.2 with ⟨h1, _⟩ | ⟨g, cap, cur, h1, h2, _⟩
      · cases h1
      · cases h1; simpa using h2
    · obtain ⟨b', o', e, h⟩ := hO1.cell i hi
      cases e; exact h
  subst hp0
  clear hO1
  rw [show prL.length = 64 from rfl, show ((64 : Nat) : Int) = 64 from rfl]
  go_loopw [5, 6, 23] (fun _ _ i wr => ∃ k : Nat, k ≤ 64 ∧ i = .int .i64 k ∧ KH w k wr ∧ PrAt bp op wr) (fun _ _ i _ => (64 - intOf i).toNat)
  case atStart => exact ⟨0, by omega, rfl, hK0, hp2⟩
  case round =>
    obtain ⟨k, hk, rfl, hK, hP⟩ := hrel
    by_cases hlt : k < 64
    · have hlt' : (k : Int) < 64 := by omega
      have hpr := hP k hlt
      have hf3 := frac3_any k hlt
      have hne1 : bp ≠ w.heap.size := by omega
      have hne2 : bp ≠ w.heap.size + 1 := by omega
      have HLT : Hid (k + 1 ≤ 64) := hlt
      clear hK0 hp2 hk
      by_cases h8 : k < 8
      · have h8' : (k : Int) < 8 := by omega
        have hf2 := frac2_any k h8
        have HR := Lib.hid (kh_round8 w wr k bp op hK hP h8 hne1 hne2)
        clear h8 hK hP hlt
        generalize prL.getD k 0 = pr at *
        generalize kc.getD k 0 = k3 at *
        generalize hc.getD k 0 = h2 at *
        go_wp2_with (first
          | (go_at_call 56; with_reducible refine (hf3 _).mono ?_; rintro e w2 ⟨rfl, hB2⟩; obtain ⟨⟨u1, hu1⟩, hu2, hR2⟩ := HR.out _ hB2; have HR2 := Lib.hid hR2; clear hR2)
          | (go_at_call 56; with_reducible refine (hf2 _).mono ?_; rintro e w3 ⟨rfl, hB3⟩; obtain ⟨⟨u2, hu3⟩, hu4, hK3, hP3⟩ := HR2.out _ hB3))
        exact ⟨⟨k + 1, HLT.out, by simp, hK3, hP3⟩, by simp [intOf] <;> omega⟩
      · have h8' : (8 : Int) ≤ k := by omega
        have HR := Lib.hid (kh_round w wr k bp op hK hP hlt (by omega) hne1)
        clear h8 hK hP hlt
        generalize prL.getD k 0 = pr at *
        generalize kc.getD k 0 = k3 at *
        go_wp2_with (go_at_call 56; with_reducible refine (hf3 _).mono ?_; rintro e w2 ⟨rfl, hB2⟩; obtain ⟨⟨u1, hu1⟩, hu2, hK3, hP3⟩ := HR.out _ hB2)
        exact ⟨⟨k + 1, HLT.out, by simp, hK3, hP3⟩, by simp [intOf] <;> omega⟩
    · obtain rfl : k = 64 := by omega
      have hKS := hK.full
      have hsl := (HV.out.below hK.below).below ((Below.refl _ wr).alloc (Nat.le_refl _) (.cells #[] 5))
      have hO0 := OB.new0 wr
      obtain ⟨w2, hw2⟩ : ∃ x, x = wr := ⟨_, rfl⟩
      subst hw2
      clear hK hP hlt hk hp1 hp2 hK0 HV
      rw [show ((64 : Nat) : Int) = 64 from rfl]
      have hbl := HN.out
      go_wp2_with (first
        | (at_builtin; refine wpL_cat w2 _ rfl _ _ rfl _ _ rfl hO0 _ _ rfl hsl n (by simp [hbl]) (by omega) ?_; intro A1 c1 w3 hO3; rw [List.nil_append] at hO3; clear hO0)
        | (at_builtin; refine wpL_push w2 _ rfl _ _ rfl _ _ rfl hO3 _ 128 rfl rfl (n + 1) (by rw [hbl]) (by omega) ?_; intro A2 c2 w4 hO4; clear hO3))
      obtain ⟨z, hz⟩ : ∃ z, z = (120 - (n + 1) % 64) % 64 := ⟨_, rfl⟩
      have HP : Hid (bs ++ [128] ++ List.replicate z 0 = pads bs) := by rw [Hid, pads, hbl, hz]
      have HL0 : (bs ++ [128]).length = n + 1 := by simp [hbl]
      clear hsl hbl
      go_loopw [7] (fun out wr => ∃ (j : Nat) (cs : List UInt8), j ≤ z ∧ Hid (cs = bs ++ [128] ++ List.replicate j 0) ∧ cs.length = n + 1 + j ∧ OB w2 wr out cs) (fun out _ => n + 1 + z - lenOf out)
      case atStart => exact ⟨0, bs ++ [128], by omega, by simp [Hid], HL0, hO4⟩
      case round =>
        obtain ⟨j, cs, hj, hcs, hcl, hOB⟩ := hrel
        obtain ⟨A, cap, rfl⟩ := hOB.shape
        rw [hcl]
        by_cases hlt : j < z
        · obtain ⟨L, hL⟩ : ∃ L, L = n + 1 + j := ⟨_, rfl⟩
          have hne : ¬ ((L : Int) % 64 = 56) := by omega
          have hLb : (L : Int) ≤ 140737488354200 := by omega
          have hne2 : ((L : Int) % 64 == 56) = false := by rw [beq_eq_false_iff_ne]; exact hne
          have hcs2 : Hid (cs ++ [0] = bs ++ [128] ++ List.replicate (j + 1) 0) := by rw [Hid, hcs.out, rep_snoc]
          rw [← hL] at hcl ⊢
          rw [hcl] at hOB
          clear hO4
          go_wp2_with (at_builtin; refine wpL_push w2 _ rfl _ _ rfl _ _ rfl hOB _ 0 rfl rfl (L + 1) (by rw [hcl]) (by omega) ?_; intro A5 c5 w5 hO5)
          exact ⟨⟨j + 1, _, by omega, hcs2, by rw [List.length_append, hcl, hL]; simp; omega, by rw [← hL]; exact hO5⟩, by simp [lenOf]; omega⟩
        · obtain rfl : j = z := by omega
          have hres : Hid (cs = pads bs) := by rw [Hid, hcs.out, HP.out]
          have he : (((n + 1 + j : Nat) : Int) % 64 == 56) = true := by rw [beq_iff_eq]; omega
          obtain ⟨L, hL⟩ : ∃ L, L = n + 1 + j := ⟨_, rfl⟩
          have hLi : Hid (L = (pads bs).length) := by rw [Hid, ← hres.out, hcl, hL]
          have hLb : L ≤ 140737488354200 := by omega
          rw [← hL] at hcl he ⊢
          rw [hcl] at hOB
          have HL64 : Hid (L % 64 = 56) := by rw [Hid]; rw [beq_iff_eq] at he; omega
          have he2 : ((L : Int) % 64 != 56) = false := by rw [bne, he]; rfl
          obtain ⟨w4, hw4⟩ : ∃ x, x = wr := ⟨_, rfl⟩
          subst hw4
          clear hlt hj hcs hO4 hL hz HL0 HP
          go_wp2
          obtain ⟨x, hx⟩ : ∃ x, x = UInt64.ofNat (8 * bs.length) := ⟨_, rfl⟩
          have hbl := HN.out
          have hxv : V64 x = (n : Int) * 8 := by
            rw [hx, hbl]; unfold V64; rw [UInt64.toNat_ofNat']; omega
          have HX : Hid (pads bs ++ be8 x = padd bs) := by rw [Hid, padd, hx]
          have HXV := Lib.hid hxv
          clear hbl hx hxv
          go_loopw [7, 8] (fun out i wr => ∃ (k : Nat) (cs : List UInt8), k ≤ 8 ∧ i = .int .i64 (56 - 8 * (k : Int)) ∧ Hid (cs = pads bs ++ (be8 x).take k) ∧ cs.length = L + k ∧ OB w2 wr out cs) (fun _ i _ => (intOf i + 8).toNat)
          case atStart => exact ⟨0, cs, by omega, rfl, by simp [Hid, hres.out], by omega, hOB⟩
          case round =>
            obtain ⟨k, cs, hk, rfl, hcs, hcl, hOB⟩ := hrel
            obtain ⟨A, cap, rfl⟩ := hOB.shape
            rw [hcl] at hOB ⊢
            by_cases hlt : k < 8
            · obtain ⟨s, hs⟩ : ∃ s : Int, 56 - 8 * (k : Int) = s := ⟨_, rfl⟩
              have hY : Hid ((n : Int) * 8 / 2 ^ s.toNat % 256 = V8 ((be8 x).getD k 0)) := by
                have := be8_at x k hlt
                rw [IntKind.wrap_u8, HXV.out] at this
                rw [Hid, show s.toNat = 56 - 8 * k by omega]; exact this
              have s0 : 0 ≤ s := by omega
              have s1 : s ≤ 56 := by omega
              have hcs2 : Hid (cs ++ [(be8 x).getD k 0] = pads bs ++ (be8 x).take (k + 1)) := by rw [Hid, be8_take x k hlt, hcs.out, List.append_assoc]
              have HK1 : Hid (k + 1 ≤ 8) := hlt
              have HS2 : Hid (s - 8 = 56 - 8 * ((k + 1 : Nat) : Int)) := by rw [Hid]; omega
              rw [hs]
              clear hlt hk hs
              generalize (be8 x).getD k 0 = y at *
              go_wp2_with (at_builtin; refine wpL_push w2 _ rfl _ _ rfl _ _ rfl hOB _ y hY.out rfl (L + k + 1) (by rw [hcl]) (by have := HK1.out; omega) ?_; intro A5 c5 w5 hO5)
              exact ⟨⟨k + 1, _, HK1.out, by rw [HS2.out], hcs2, by rw [List.length_append, hcl]; simp; omega, hO5⟩, by simp [intOf]; omega⟩
            · obtain rfl : k = 8 := by omega
              have hres : Hid (cs = padd bs) := by rw [Hid, hcs.out, ← HX.out, List.take_of_length_le (by simp [be8])]
              obtain ⟨q, hq⟩ : ∃ q, L + 8 = 64 * q := ⟨(L + 8) / 64, by have := HL64.out; omega⟩
              have HQ := Lib.hid hq
              have hs : (56 : Int) - 8 * ((8 : Nat) : Int) = -8 := by decide
              rw [hs]
              rw [hres.out] at hOB hcl
              have hKS2 := hKS.later hOB.2
              have hsl := hOB.sl
              obtain ⟨w5, hw5⟩ : ∃ x, x = wr := ⟨_, rfl⟩
              subst hw5
              rw [hq] at hcl hsl ⊢
              have hqb : 64 * q ≤ 140737488354300 := by omega
              have hq0 : 0 < q := by omega
              obtain ⟨b, o, rfl, hb5, hMC⟩ := msg_at hsl hcl hq0
              have hb2b : w.heap.size + 2 ≤ b := by
                have h1 := own_base' hOB.1 b rfl
                have h2 := (Array.getElem?_eq_some_iff.1 hKS.hs).1
                omega
              have H5 := hKS2.below.size
              have Hbb : Hid (b < w5.heap.size) := hb5
              have HML := Lib.hid hcl
              have h2sz : w.heap.size + 2 ≤ w5.heap.size := by
                have := (Array.getElem?_eq_some_iff.1 hKS2.hs).1
                omega
              have HSHA : Hid (sha bs = (shaN (padd bs) q).flatMap be4) := by rw [Hid, sha, hcl, Nat.mul_div_cancel_left _ (by decide)]
              generalize padd bs = M at *
              clear hlt hk hcs hOB hKS hsl hcl hq hres HX HXV HL64 hLi
              go_wp2
              refine blocks_loop w b o q cap (64 * q) w5.heap.size rfl M HML.out hqb Hbb.out hb2b h2sz _ _ _ _ _ _ _ _ _ _ _ _ _ _ _ _ _ _ _ _ _ _ _ _ _ _ _ _ _ _ _ _ _ _ _ _ _ _ _ _ _ _ _ _ _ _ _ _ _ _ _ _ _ _ _ _ _ _ _ _ _ _ _ _ _ _ _ _ _ _ _ _ _ _ _ _ _ _ _ _ _ _ _ _ _ _ _ _ _ _ _ _ _ _ _ _ _ _ _ _ _ _ _ _ _ _ _ _ _ _ _ _ _ _ _ _ _ _ _ _ _ _ _ _ _ _ _ _ _ _ _ _ _ _ _ _ _ _ _ _ _ _ _ _ _ _ _ _ _ _ _ _ _ _ _ _ _ _ _ _ _ _ _ _ _ _ _ _ _ _ _ _ _ _ _ _ _ _ _ _ _ _ _ _ _ _ _ _ _ _ _ _ _ _ _ _ _ _ _ _ _ _ _ _ _ _ _ _ _ _ _ _ _ _ _ _ _ _ _ _ _ _ _ _ _ _ _ _ _ _ _ _ _ _ _ _ _ _ _ _ _ _ _ _ _ _ _ _ _ _ _ _ _ _ _ _ _ _ _ _ _ _ _ _ _ _ _ _ _ _ _ _ _ _ _ _ _ _ _ _ _ _ _ _ _ hKS2 hMC (Nat.le_refl _) _ ?_
              intro y9 y10 y11 y12 y13 y14 y15 y66 y67 y68 y69 y70 y71 y72 y73 y74 y75 y76 y77 y78 y79 y80 y81 y82 y83 y84 y85 y86 y87 y88 y89 y90 y91 y92 y93 y94 y95 y96 y97 y98 y99 y100 y101 y102 y103 y104 y105 y106 y107 y108 y109 y110 y111 y112 y113 y114 y115 y116 y117 y118 y119 y120 y121 y122 y123 y124 y125 y126 y127 y128 y129 y130 y131 y132 y133 y134 y135 y136 y137 y138 y139 y140 y141 y142 y143 y144 y145 y146 y147 y148 y149 y150 y151 y152 y153 y154 y155 y156 y157 y158 y159 y160 y161 y162 y163 y164 y165 y166 y167 y168 y169 y170 y171 y172 y173 y174 y175 y176 y177 y178 y179 y180 y181 y182 y183 y184 y185 y186 y187 y188 y189 y190 y191 y192 y193 y194 y195 y196 y197 y198 y199 y200 y201 y202 y203 y204 y205 y206 y207 y208 y209 y210 y211 y212 y213 y214 y215 y216 y217 y218 y219 y220 y221 y222 y223 y224 y225 y226 y227 y228 y229 y230 y231 y232 y233 y234 y235 y236 y237 y238 y239 y240 y241 y242 y243 y244 y245 y246 y247 y248 y249 y250 y251 y252 y253 y254 y255 y256 y257 y258 y259 y260 y261 y262 y263 y264 y265 y266 W2 hK2
              have hT8 := shaN_length' M q
              have hHS := hK2.hs
              have HW := Lib.hid hK2.below
              have HO := OB.new0 W2
              generalize shaN M q = T at *
              have HI := inf73 (arr8 T).size (by simp [arr8, wv, hT8])
              have HL2 : Hid (∀ cs : Array Value, (W2.alloc (.cells cs 5)).heap[w.heap.size + 1]? = some (.cells (arr8 T) 73 (0, 0))) := fun cs => lives_block _ _ _ _ hHS ((Below.refl _ W2).alloc (Nat.le_refl _) _)
              clear hK2 hHS
              go_wp2_with (with_reducible refine wpList_load_row rfl 73 _ rfl (w.heap.size + 1) rfl 73 (arr8 T) (0, 0) _ (HL2.out _) Try.underlying73 rfl HI ?_)
              have HT8 := Lib.hid hT8
              have HA := Lib.hid (fun k (h : k < 8) => arr8_at T k (by rw [hT8]; exact h))
              have HS := Lib.hid (fun k (h : k < 8) => flat_snoc T k (by rw [hT8]; exact h))
              have HTk := Lib.hid (List.take_of_length_le (l := T) (i := 8) (by omega))
              have HL := Lib.hid (fun k => flat_len T k)
              clear HI hT8 HL2
              generalize arr8 T = AT at *
              go_loopw [16, 18, 269] (fun out _ i wr => ∃ (k : Nat) (cs : List UInt8), k ≤ 8 ∧ Hid (cs = (T.take k).flatMap be4) ∧ i = .int .i64 k ∧ OB W2 wr out cs) (fun _ _ i _ => (8 - intOf i).toNat)
              case atStart => exact ⟨0, [], by omega, rfl, rfl, HO⟩
              case round =>
                obtain ⟨k, cs, hk, hcs, rfl, hOB⟩ := hrel
                by_cases hlt : k < 8
                · have hlt' : (k : Int) < 8 := by omega
                  have hix := run_index73 wr AT k _ (HA.out k hlt) hlt
                  have hcl : cs.length ≤ 1000 := by rw [hcs.out]; have := HL.out k; omega
                  have hst : Hid (cs ++ be4 (T.getD k 0) = (T.take (k + 1)).flatMap be4) := by rw [Hid, HS.out k hlt, hcs.out]
                  have Hk1 : Hid (k + 1 ≤ 8) := hlt
                  obtain ⟨A, cap, rfl⟩ := hOB.shape
                  generalize T.getD k 0 = tk at *
                  clear hlt hk HO
                  obtain ⟨g0, g1, g2, g3⟩ := b4 tk
                  have G0 := Lib.hid g0
                  have G1 := Lib.hid g1
                  have G2 := Lib.hid g2
                  have G3 := Lib.hid g3
                  clear g0 g1 g2 g3
                  go_wp2_with (at_builtin; refine wpL_push4 W2 _ rfl _ _ rfl _ _ rfl hOB tk _ _ _ _ G0.out G1.out G2.out G3.out rfl _ rfl (by omega) ?_; intro A5 c5 w9 hO5)
                  exact ⟨⟨k + 1, _, Hk1.out, hst, by go_num, hO5⟩, by simp [intOf]; omega⟩
                · obtain rfl : k = 8 := by omega
                  rw [hcs.out, HTk.out, ← HSHA.out] at hOB
                  have hres := hOB
                  clear hlt hk
                  go_wp2
                  go_ret
                  exact ⟨_, rfl, ⟨own_rebase hres.1 HW.out.size, below_then HW.out HW.out.size hres.2⟩⟩
end Go.Proofs.Ytllnocffmlagjaa
