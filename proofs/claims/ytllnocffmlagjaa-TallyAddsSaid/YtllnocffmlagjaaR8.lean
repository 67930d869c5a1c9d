/- The blocks' loop of ref07.Sum. Conditions: the memory as its hypotheses say. -/
import Derived.Test.YtllnocffmlagjaaR7
import Derived.Test.YtllnocffmlagjaaR8a
set_option linter.unusedVariables false
namespace Go.Proofs.Ytllnocffmlagjaa
open Go.RowKit
attribute [local go_sem] flowAt flowUpon v32_xor v32_or v32_and v32_not v32_add v32_addm v32_div8 v32_div1024 u32_unsigned

set_option maxRecDepth 100000 in
set_option maxHeartbeats 4000000 in
theorem blocks_loop (w : World) (b o q cap L n5 : Nat) (hL : L = 64 * q) (M : List UInt8) (hM : M.length = 64 * q) (hq : 64 * q ≤ 140737488354300) (hb5 : b < n5) (hb2 : w.heap.size + 2 ≤ b) (h5 : w.heap.size + 2 ≤ n5)
    (x0 x1 x2 x5 x6 x8 x10 x11 x12 x13 x14 x15 x16 x17 x18 x19 x20 x21 x22 x23 x24 x25 x26 x27 x28 x29 x30 x31 x32 x33 x34 x35 x36 x37 x38 x39 x40 x41 x42 x43 x44 x45 x46 x47 x48 x49 x50 x51 x52 x53 x54 x55 x56 x57 x58 x59 x60 x61 x62 x63 x64 x65 x66 x67 x68 x69 x70 x71 x72 x73 x74 x75 x76 x77 x78 x79 x80 x81 x82 x83 x84 x85 x86 x87 x88 x89 x90 x91 x92 x93 x94 x95 x96 x97 x98 x99 x100 x101 x102 x103 x104 x105 x106 x107 x108 x109 x110 x111 x112 x113 x114 x115 x116 x117 x118 x119 x120 x121 x122 x123 x124 x125 x126 x127 x128 x129 x130 x131 x132 x133 x134 x135 x136 x137 x138 x139 x140 x141 x142 x143 x144 x145 x146 x147 x148 x149 x150 x151 x152 x153 x154 x155 x156 x157 x158 x159 x160 x161 x162 x163 x164 x165 x166 x167 x168 x169 x170 x171 x172 x173 x174 x175 x176 x177 x178 x179 x180 x181 x182 x183 x184 x185 x186 x187 x188 x189 x190 x191 x192 x193 x194 x195 x196 x197 x198 x199 x200 x201 x202 x203 x204 x205 x206 x207 x208 x209 x210 x211 x212 x213 x214 x215 x216 x217 x218 x219 x220 x221 x222 x223 x224 x225 x226 x227 x228 x229 x230 x231 x232 x233 x234 x235 x236 x237 x238 x239 x240 x241 x242 x243 x244 x245 x246 x247 x248 x249 x250 x251 x252 x253 x254 x255 x256 x257 x258 x259 x260 x261 x262 x263 x264 x265 x266 x267 x268 x269 x270 x271 x272 x273 x274 x275 x276 x277 x278 x279 x280 x281 x282 x283 x284 x285 x286 x287 : Value) (W : World) (hKS : KS w hc W) (hMC : MC b o q M W) (hW : n5 ≤ W.heap.size) (Q : Exit → Act → World → Prop)
    (hQ : ∀ (y9 y10 y11 y12 y13 y14 y15 y66 y67 y68 y69 y70 y71 y72 y73 y74 y75 y76 y77 y78 y79 y80 y81 y82 y83 y84 y85 y86 y87 y88 y89 y90 y91 y92 y93 y94 y95 y96 y97 y98 y99 y100 y101 y102 y103 y104 y105 y106 y107 y108 y109 y110 y111 y112 y113 y114 y115 y116 y117 y118 y119 y120 y121 y122 y123 y124 y125 y126 y127 y128 y129 y130 y131 y132 y133 y134 y135 y136 y137 y138 y139 y140 y141 y142 y143 y144 y145 y146 y147 y148 y149 y150 y151 y152 y153 y154 y155 y156 y157 y158 y159 y160 y161 y162 y163 y164 y165 y166 y167 y168 y169 y170 y171 y172 y173 y174 y175 y176 y177 y178 y179 y180 y181 y182 y183 y184 y185 y186 y187 y188 y189 y190 y191 y192 y193 y194 y195 y196 y197 y198 y199 y200 y201 y202 y203 y204 y205 y206 y207 y208 y209 y210 y211 y212 y213 y214 y215 y216 y217 y218 y219 y220 y221 y222 y223 y224 y225 y226 y227 y228 y229 y230 y231 y232 y233 y234 y235 y236 y237 y238 y239 y240 y241 y242 y243 y244 y245 y246 y247 y248 y249 y250 y251 y252 y253 y254 y255 y256 y257 y258 y259 y260 y261 y262 y263 y264 y265 y266 : Value) (W' : World), KS w (shaN M q) W' → Q (.exit 6) { tmps := List.toArray (x0 :: x1 :: x2 :: (.pointer (some ⟨w.heap.size, 0, none⟩)) :: (.pointer (some ⟨w.heap.size + 1, 0, none⟩)) :: x5 :: x6 :: (.slice (some ⟨b, o, none⟩) L cap) :: x8 :: y9 :: y10 :: y11 :: y12 :: y13 :: y14 :: y15 :: x16 :: x17 :: x18 :: x19 :: x20 :: x21 :: x22 :: x23 :: x24 :: x25 :: x26 :: x27 :: x28 :: x29 :: x30 :: x31 :: x32 :: x33 :: x34 :: x35 :: x36 :: x37 :: x38 :: x39 :: x40 :: x41 :: x42 :: x43 :: x44 :: x45 :: x46 :: x47 :: x48 :: x49 :: x50 :: x51 :: x52 :: x53 :: x54 :: x55 :: x56 :: x57 :: x58 :: x59 :: x60 :: x61 :: x62 :: x63 :: x64 :: x65 :: y66 :: y67 :: y68 :: y69 :: y70 :: y71 :: y72 :: y73 :: y74 :: y75 :: y76 :: y77 :: y78 :: y79 :: y80 :: y81 :: y82 :: y83 :: y84 :: y85 :: y86 :: y87 :: y88 :: y89 :: y90 :: y91 :: y92 :: y93 :: y94 :: y95 :: y96 :: y97 :: y98 :: y99 :: y100 :: y101 :: y102 :: y103 :: y104 :: y105 :: y106 :: y107 :: y108 :: y109 :: y110 :: y111 :: y112 :: y113 :: y114 :: y115 :: y116 :: y117 :: y118 :: y119 :: y120 :: y121 :: y122 :: y123 :: y124 :: y125 :: y126 :: y127 :: y128 :: y129 :: y130 :: y131 :: y132 :: y133 :: y134 :: y135 :: y136 :: y137 :: y138 :: y139 :: y140 :: y141 :: y142 :: y143 :: y144 :: y145 :: y146 :: y147 :: y148 :: y149 :: y150 :: y151 :: y152 :: y153 :: y154 :: y155 :: y156 :: y157 :: y158 :: y159 :: y160 :: y161 :: y162 :: y163 :: y164 :: y165 :: y166 :: y167 :: y168 :: y169 :: y170 :: y171 :: y172 :: y173 :: y174 :: y175 :: y176 :: y177 :: y178 :: y179 :: y180 :: y181 :: y182 :: y183 :: y184 :: y185 :: y186 :: y187 :: y188 :: y189 :: y190 :: y191 :: y192 :: y193 :: y194 :: y195 :: y196 :: y197 :: y198 :: y199 :: y200 :: y201 :: y202 :: y203 :: y204 :: y205 :: y206 :: y207 :: y208 :: y209 :: y210 :: y211 :: y212 :: y213 :: y214 :: y215 :: y216 :: y217 :: y218 :: y219 :: y220 :: y221 :: y222 :: y223 :: y224 :: y225 :: y226 :: y227 :: y228 :: y229 :: y230 :: y231 :: y232 :: y233 :: y234 :: y235 :: y236 :: y237 :: y238 :: y239 :: y240 :: y241 :: y242 :: y243 :: y244 :: y245 :: y246 :: y247 :: y248 :: y249 :: y250 :: y251 :: y252 :: y253 :: y254 :: y255 :: y256 :: y257 :: y258 :: y259 :: y260 :: y261 :: y262 :: y263 :: y264 :: y265 :: y266 :: x267 :: x268 :: x269 :: x270 :: x271 :: x272 :: x273 :: x274 :: x275 :: x276 :: x277 :: x278 :: x279 :: x280 :: x281 :: x282 :: x283 :: x284 :: x285 :: x286 :: x287 :: []), defers := [] } W') :
    Code.wp Try.prog (loopAt Try.f14 3) Q { tmps := List.toArray (x0 :: x1 :: x2 :: (.pointer (some ⟨w.heap.size, 0, none⟩)) :: (.pointer (some ⟨w.heap.size + 1, 0, none⟩)) :: x5 :: x6 :: (.slice (some ⟨b, o, none⟩) L cap) :: x8 :: (.int .i64 0) :: x10 :: x11 :: x12 :: x13 :: x14 :: x15 :: x16 :: x17 :: x18 :: x19 :: x20 :: x21 :: x22 :: x23 :: x24 :: x25 :: x26 :: x27 :: x28 :: x29 :: x30 :: x31 :: x32 :: x33 :: x34 :: x35 :: x36 :: x37 :: x38 :: x39 :: x40 :: x41 :: x42 :: x43 :: x44 :: x45 :: x46 :: x47 :: x48 :: x49 :: x50 :: x51 :: x52 :: x53 :: x54 :: x55 :: x56 :: x57 :: x58 :: x59 :: x60 :: x61 :: x62 :: x63 :: x64 :: x65 :: x66 :: x67 :: x68 :: x69 :: x70 :: x71 :: x72 :: x73 :: x74 :: x75 :: x76 :: x77 :: x78 :: x79 :: x80 :: x81 :: x82 :: x83 :: x84 :: x85 :: x86 :: x87 :: x88 :: x89 :: x90 :: x91 :: x92 :: x93 :: x94 :: x95 :: x96 :: x97 :: x98 :: x99 :: x100 :: x101 :: x102 :: x103 :: x104 :: x105 :: x106 :: x107 :: x108 :: x109 :: x110 :: x111 :: x112 :: x113 :: x114 :: x115 :: x116 :: x117 :: x118 :: x119 :: x120 :: x121 :: x122 :: x123 :: x124 :: x125 :: x126 :: x127 :: x128 :: x129 :: x130 :: x131 :: x132 :: x133 :: x134 :: x135 :: x136 :: x137 :: x138 :: x139 :: x140 :: x141 :: x142 :: x143 :: x144 :: x145 :: x146 :: x147 :: x148 :: x149 :: x150 :: x151 :: x152 :: x153 :: x154 :: x155 :: x156 :: x157 :: x158 :: x159 :: x160 :: x161 :: x162 :: x163 :: x164 :: x165 :: x166 :: x167 :: x168 :: x169 :: x170 :: x171 :: x172 :: x173 :: x174 :: x175 :: x176 :: x177 :: x178 :: x179 :: x180 :: x181 :: x182 :: x183 :: x184 :: x185 :: x186 :: x187 :: x188 :: x189 :: x190 :: x191 :: x192 :: x193 :: x194 :: x195 :: x196 :: x197 :: x198 :: x199 :: x200 :: x201 :: x202 :: x203 :: x204 :: x205 :: x206 :: x207 :: x208 :: x209 :: x210 :: x211 :: x212 :: x213 :: x214 :: x215 :: x216 :: x217 :: x218 :: x219 :: x220 :: x221 :: x222 :: x223 :: x224 :: x225 :: x226 :: x227 :: x228 :: x229 :: x230 :: x231 :: x232 :: x233 :: x234 :: x235 :: x236 :: x237 :: x238 :: x239 :: x240 :: x241 :: x242 :: x243 :: x244 :: x245 :: x246 :: x247 :: x248 :: x249 :: x250 :: x251 :: x252 :: x253 :: x254 :: x255 :: x256 :: x257 :: x258 :: x259 :: x260 :: x261 :: x262 :: x263 :: x264 :: x265 :: x266 :: x267 :: x268 :: x269 :: x270 :: x271 :: x272 :: x273 :: x274 :: x275 :: x276 :: x277 :: x278 :: x279 :: x280 :: x281 :: x282 :: x283 :: x284 :: x285 :: x286 :: x287 :: []), defers := [] } W := by
  conv => arg 2; whnf
  have HQ := Lib.hid hQ
  have EL := Lib.hid hL
  have EM := Lib.hid hM
  have Eq := Lib.hid hq
  have Eb5 := Lib.hid hb5
  have Eb2 := Lib.hid hb2
  have E5 := Lib.hid h5
  clear hQ hM hq hb5 hb2 h5
  have hLb : (L : Int) ≤ 140737488354300 := by have := Eq.out; omega
  clear hL
  go_loopw [9] (fun at_ wr => ∃ j : Nat, j ≤ q ∧ at_ = .int .i64 ((64 * j : Nat) : Int) ∧ KS w (shaN M j) wr ∧ MC b o q M wr ∧ n5 ≤ wr.heap.size) (fun at_ _ => (L - intOf at_).toNat)
  case atStart => exact ⟨0, by omega, rfl, hKS, hMC, hW⟩
  case round =>
    obtain ⟨j, hj, rfl, hKS3, hMC3, hsz⟩ := hrel
    by_cases hlt : j < q
    · obtain ⟨J, hJ⟩ : ∃ J : Int, ((64 * j : Nat) : Int) = J := ⟨_, rfl⟩
      have hJq : J < L := by have := EL.out; omega
      have hJ0 : 0 ≤ J := by omega
      have EJ := Lib.hid hJ.symm
      have Ej := Lib.hid hlt
      rw [hJ]
      have hT8 : (shaN M j).length = 8 := shaN_length' M j
      have HI := inf73 (arr8 (shaN M j)).size (by simp [arr8, wv, hT8])
      have HL8 := Lib.hid hT8
      have HCO : Hid (shaN M (j + 1) = comp (shaN M j) (chunk M j)) := by rw [Hid, shaN, List.range_succ, List.foldl_append]; rfl
      obtain ⟨w6, hw6⟩ : ∃ x, x = wr := ⟨_, rfl⟩
      subst hw6
      have HRB := Lib.hid (fun cs cs' => RB.start w w6 b o q M (shaN M j) j cs cs' hKS3 hMC3)
      have HHL : Hid (∀ cs : Array Value, ((w6.alloc (.cells cs 80)).setRow w6.heap.size (arr64 [])).heap[w.heap.size + 1]? = some (.cells (arr8 (shaN M j)) 73 (0, 0))) :=
        fun cs => lives_block _ _ _ _ hKS3.hs (below_setRow ((Below.refl _ w6).alloc (Nat.le_refl _) _) (Nat.le_refl _) _)
      have HSZ := Lib.hid hsz
      generalize shaN M j = l at *
      clear hKS3 hMC3 hJ hj hlt hKS hMC hW hsz
      go_wp2_with (first
        | (with_reducible refine wpL_build rfl 80 _ rfl (.agg (arr64 [])) (by kernel_rfl) ?_)
        | (with_reducible refine wpL_storeRow rfl 80 _ _ rfl w6.heap.size rfl (arr64 []) rfl 80 _ (heap_alloc_new w6 _) (by kernel_rfl) (inf80 _ (by kernel_rfl)) (arr64_one _) ?_)
        | (with_reducible refine wpList_load_row rfl 73 _ rfl (w.heap.size + 1) rfl 73 (arr8 l) (0, 0) _ (HHL.out _) Try.underlying73 rfl HI ?_)
        | (with_reducible refine wpL_storeRow rfl 73 _ _ rfl (w6.heap.size + 1) rfl (arr8 l) rfl 73 _ (new_after w6 _ _ _) (by simp [arr8, wv, hT8]) HI (wv_one _) ?_))
      refine rounds_loop w w6.heap.size b o q cap j L EL.out J M l EM.out Ej.out EJ.out Eq.out HL8.out (by have := HSZ.out; have := E5.out; omega) (by have := HSZ.out; have := Eb5.out; omega) _ _ _ _ _ _ _ _ _ _ _ _ _ _ _ _ _ _ _ _ _ _ _ _ _ _ _ _ _ _ _ _ _ _ _ _ _ _ _ _ _ _ _ _ _ _ _ _ _ _ _ _ _ _ _ _ _ _ _ _ _ _ _ _ _ _ _ _ _ _ _ _ _ _ _ _ _ _ _ _ _ _ _ _ _ _ _ _ _ _ _ _ _ _ _ _ _ _ _ _ _ _ _ _ _ _ _ _ _ _ _ _ _ _ _ _ _ _ _ _ _ _ _ _ _ _ _ _ _ _ _ _ _ _ _ _ _ _ _ _ _ _ _ _ _ _ _ _ _ _ _ _ _ _ _ _ _ _ _ _ _ _ _ _ _ _ _ _ _ _ _ _ _ _ _ _ _ _ _ _ _ _ _ _ _ _ _ _ _ _ _ _ _ _ _ _ _ _ _ _ _ _ _ _ _ _ _ _ _ _ _ _ _ _ _ _ _ _ _ _ _ _ _ _ _ _ _ _ _ _ _ _ _ _ _ _ _ _ _ _ _ _ _ _ _ _ _ _ _ _ _ _ _ _ _ _ _ _ _ _ _ _ _ _ _ _ _ _ _ _ _ _ _ _ _ _ _ _ _ _ _ _ (HRB.out _ _) _ ?_
      intro y12 y13 y14 y74 y75 y76 y77 y78 y79 y80 y81 y82 y83 y84 y85 y86 y87 y88 y89 y90 y91 y92 y93 y94 y95 y96 y97 y98 y99 y100 y101 y102 y103 y104 y105 y106 y107 y108 y109 y110 y111 y112 y113 y114 y115 y116 y117 y118 y119 y120 y121 y122 y123 y124 y125 y126 y127 y128 y129 y130 y131 y132 y133 y134 y135 y136 y137 y138 y139 y140 y141 y142 y143 y144 y145 y146 y147 y148 y149 y150 y151 y152 y153 y154 y155 y156 y157 y158 y159 y160 y161 y162 y163 y164 y165 y166 y167 y168 y169 y170 y171 y172 y173 y174 y175 y176 y177 y178 y179 y180 y181 y182 y183 y184 y185 y186 y187 y188 y189 y190 y191 y192 y193 y194 y195 y196 y197 y198 y199 y200 y201 y202 y203 y204 y205 y206 y207 y208 y209 y210 y211 y212 y213 y214 y215 y216 y217 y218 y219 y220 y221 y222 y223 y224 y225 y226 y227 y228 y229 y230 y231 y232 y233 y234 y235 y236 y237 y238 y239 y240 y241 y242 y243 y244 y245 y246 y247 y248 y249 y250 y251 y252 y253 W2 hR2
      have HFB := Lib.hid (show FB w w6.heap.size b o q M l (rounds l (chunk M j) 64) 0 W2 from ⟨hR2.hv, by rw [mix_zero l _ HL8.out]; exact hR2.ks, hR2.mc⟩)
      have HR8 := Lib.hid (rounds_length l (chunk M j) HL8.out 64)
      have HSZ2 : Hid (w6.heap.size + 1 < W2.heap.size) := (Array.getElem?_eq_some_iff.1 hR2.hv).1
      have HCO2 : Hid (shaN M (j + 1) = mix l (rounds l (chunk M j) 64) 8) := by rw [Hid, HCO.out, mix_end l _ HL8.out HR8.out]; rfl
      clear hR2 HRB HHL HI
      go_wp2
      refine add_loop w w6.heap.size b o q cap j L EL.out J M l EM.out Ej.out EJ.out Eq.out HL8.out (by have := HSZ.out; have := E5.out; omega) (by have := HSZ.out; have := Eb5.out; omega) Eb2.out (rounds l (chunk M j) 64) HR8.out _ _ _ _ _ _ _ _ _ _ _ _ _ _ _ _ _ _ _ _ _ _ _ _ _ _ _ _ _ _ _ _ _ _ _ _ _ _ _ _ _ _ _ _ _ _ _ _ _ _ _ _ _ _ _ _ _ _ _ _ _ _ _ _ _ _ _ _ _ _ _ _ _ _ _ _ _ _ _ _ _ _ _ _ _ _ _ _ _ _ _ _ _ _ _ _ _ _ _ _ _ _ _ _ _ _ _ _ _ _ _ _ _ _ _ _ _ _ _ _ _ _ _ _ _ _ _ _ _ _ _ _ _ _ _ _ _ _ _ _ _ _ _ _ _ _ _ _ _ _ _ _ _ _ _ _ _ _ _ _ _ _ _ _ _ _ _ _ _ _ _ _ _ _ _ _ _ _ _ _ _ _ _ _ _ _ _ _ _ _ _ _ _ _ _ _ _ _ _ _ _ _ _ _ _ _ _ _ _ _ _ _ _ _ _ _ _ _ _ _ _ _ _ _ _ _ _ _ _ _ _ _ _ _ _ _ _ _ _ _ _ _ _ _ _ _ _ _ _ _ _ _ _ _ _ _ _ _ _ _ _ _ _ _ _ _ _ _ _ _ _ _ _ _ _ _ _ _ _ _ _ _ HFB.out _ ?_
      intro z15 z254 z255 z256 z257 z258 z259 z260 z261 z262 z263 z264 z265 z266 W3 hF3
      have hks := hF3.ks
      rw [← HCO2.out] at hks
      have hmc := hF3.mc
      have hsz3 : Hid (n5 ≤ W3.heap.size) := by
        have := (Array.getElem?_eq_some_iff.1 hF3.hv).1
        have := HSZ.out
        rw [Hid]; omega
      have HJ1 : Hid (J + 64 = ((64 * (j + 1) : Nat) : Int)) := by rw [Hid, EJ.out]; omega
      have Hj1 : Hid (j + 1 ≤ q) := Ej.out
      have HM : Hid ((L - (J + 64)).toNat < (L - J).toNat) := by rw [Hid]; omega
      clear hF3
      go_wp2
      exact ⟨⟨j + 1, Hj1.out, by rw [HJ1.out], hks, hmc, hsz3.out⟩, by simpa [intOf] using HM.out⟩
    · obtain rfl : j = q := by omega
      have hjL : ((64 * j : Nat) : Int) = L := by rw [EL.out]
      rw [hjL]
      clear hlt hj
      go_wp2
      exact HQ.out _ _ _ _ _ _ _ _ _ _ _ _ _ _ _ _ _ _ _ _ _ _ _ _ _ _ _ _ _ _ _ _ _ _ _ _ _ _ _ _ _ _ _ _ _ _ _ _ _ _ _ _ _ _ _ _ _ _ _ _ _ _ _ _ _ _ _ _ _ _ _ _ _ _ _ _ _ _ _ _ _ _ _ _ _ _ _ _ _ _ _ _ _ _ _ _ _ _ _ _ _ _ _ _ _ _ _ _ _ _ _ _ _ _ _ _ _ _ _ _ _ _ _ _ _ _ _ _ _ _ _ _ _ _ _ _ _ _ _ _ _ _ _ _ _ _ _ _ _ _ _ _ _ _ _ _ _ _ _ _ _ _ _ _ _ _ _ _ _ _ _ _ _ _ _ _ _ _ _ _ _ _ _ _ _ _ _ _ _ _ _ _ _ _ _ _ _ _ _ _ _ _ _ _ _ _ _ _ _ hKS3
end Go.Proofs.Ytllnocffmlagjaa
