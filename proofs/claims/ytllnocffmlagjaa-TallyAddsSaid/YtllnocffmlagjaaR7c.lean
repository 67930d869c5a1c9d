/- Region 28 of ref07.Sum. Conditions: the memory as its hypotheses say. -/
import Derived.Test.YtllnocffmlagjaaR6
import Derived.Test.YtllnocffmlagjaaF2
set_option linter.unusedVariables false
namespace Go.Proofs.Ytllnocffmlagjaa
open Go.RowKit
attribute [local go_sem] flowAt flowUpon v32_xor v32_or v32_and v32_not v32_add v32_addm v32_div8 v32_div1024 u32_unsigned

set_option maxRecDepth 100000 in
set_option maxHeartbeats 4000000 in
theorem rg28 (w : World) (N b o q cap j L : Nat) (hL : L = 64 * q) (J : Int) (M : List UInt8) (l : List UInt32) (hM : M.length = 64 * q) (hj : j < q) (hJ : J = ((64 * j : Nat) : Int)) (hq : 64 * q ≤ 140737488354300) (hl : l.length = 8)
    (hN : w.heap.size + 2 ≤ N) (hbN : b < N) (t : Nat) (h64 : t < 64) (x0 x1 x2 x5 x6 x8 x13 x14 x15 x16 x17 x18 x19 x20 x21 x22 x23 x24 x25 x26 x27 x28 x29 x30 x31 x32 x33 x34 x35 x36 x37 x38 x39 x40 x41 x42 x43 x44 x45 x46 x47 x48 x49 x50 x51 x52 x53 x54 x55 x56 x57 x58 x59 x60 x61 x62 x63 x64 x65 x66 x67 x68 x69 x70 x71 x72 x73 x74 x75 x76 x77 x78 x79 x80 x81 x82 x83 x84 x85 x86 x87 x88 x89 x90 x91 x92 x93 x94 x95 x96 x97 x98 x99 x100 x101 x102 x103 x104 x105 x106 x107 x108 x109 x110 x111 x112 x113 x114 x115 x116 x117 x118 x119 x120 x121 x122 x123 x124 x125 x126 x127 x128 x129 x130 x131 x132 x133 x134 x135 x136 x137 x138 x139 x140 x141 x142 x143 x144 x145 x146 x147 x148 x149 x150 x151 x152 x153 x154 x155 x156 x157 x158 x159 x160 x161 x162 x163 x164 x165 x166 x167 x168 x169 x170 x171 x172 x173 x174 x175 x176 x177 x178 x179 x180 x181 x182 x183 x184 x185 x186 x187 x188 x189 x190 x191 x192 x193 x194 x195 x196 x197 x198 x199 x200 x201 x202 x203 x204 x205 x206 x207 x208 x209 x210 x211 x212 x213 x214 x215 x216 x217 x218 x219 x220 x221 x222 x223 x224 x225 x226 x227 x228 x229 x230 x231 x232 x233 x234 x235 x236 x237 x238 x239 x240 x241 x242 x243 x244 x245 x246 x247 x248 x249 x250 x251 x252 x253 x254 x255 x256 x257 x258 x259 x260 x261 x262 x263 x264 x265 x266 x267 x268 x269 x270 x271 x272 x273 x274 x275 x276 x277 x278 x279 x280 x281 x282 x283 x284 x285 x286 x287 : Value) (W : World) (hB : RC w N b o q M l j t W) (Q : Exit → Act → World → Prop)
    (hQ : ∀ (y170 y171 y172 y173 y174 y175 y176 y177 y178 y179 y180 y181 y182 y183 y184 y185 y186 y187 y188 y189 y190 y191 y192 y193 y194 y195 y196 y197 y198 y199 y200 y201 y202 y203 y204 : Value) (W' : World), RC w N b o q M l j t W' → Q .normal { tmps := List.toArray (x0 :: x1 :: x2 :: (.pointer (some ⟨w.heap.size, 0, none⟩)) :: (.pointer (some ⟨w.heap.size + 1, 0, none⟩)) :: x5 :: x6 :: (.slice (some ⟨b, o, none⟩) L cap) :: x8 :: (.int .i64 J) :: (.pointer (some ⟨N, 0, none⟩)) :: (.pointer (some ⟨N + 1, 0, none⟩)) :: (.int .i64 t) :: (.int .u32 (V32 (t1v l (chunk M j) t))) :: x14 :: x15 :: x16 :: x17 :: x18 :: x19 :: x20 :: x21 :: x22 :: x23 :: x24 :: x25 :: x26 :: x27 :: x28 :: x29 :: x30 :: x31 :: x32 :: x33 :: x34 :: x35 :: x36 :: x37 :: x38 :: x39 :: x40 :: x41 :: x42 :: x43 :: x44 :: x45 :: x46 :: x47 :: x48 :: x49 :: x50 :: x51 :: x52 :: x53 :: x54 :: x55 :: x56 :: x57 :: x58 :: x59 :: x60 :: x61 :: x62 :: x63 :: x64 :: x65 :: x66 :: x67 :: x68 :: x69 :: x70 :: x71 :: x72 :: x73 :: x74 :: x75 :: x76 :: x77 :: x78 :: x79 :: x80 :: x81 :: x82 :: x83 :: x84 :: x85 :: x86 :: x87 :: x88 :: x89 :: x90 :: x91 :: x92 :: x93 :: x94 :: x95 :: x96 :: x97 :: x98 :: x99 :: x100 :: x101 :: x102 :: x103 :: x104 :: x105 :: x106 :: x107 :: x108 :: x109 :: x110 :: x111 :: x112 :: x113 :: x114 :: x115 :: x116 :: x117 :: x118 :: x119 :: x120 :: x121 :: x122 :: x123 :: x124 :: x125 :: x126 :: x127 :: x128 :: x129 :: x130 :: x131 :: x132 :: x133 :: x134 :: x135 :: x136 :: x137 :: x138 :: x139 :: x140 :: x141 :: x142 :: x143 :: x144 :: x145 :: x146 :: x147 :: x148 :: x149 :: x150 :: x151 :: x152 :: x153 :: x154 :: x155 :: x156 :: x157 :: x158 :: x159 :: x160 :: x161 :: x162 :: x163 :: x164 :: x165 :: x166 :: x167 :: x168 :: x169 :: y170 :: y171 :: y172 :: y173 :: y174 :: y175 :: y176 :: y177 :: y178 :: y179 :: y180 :: y181 :: y182 :: y183 :: y184 :: y185 :: y186 :: y187 :: y188 :: y189 :: y190 :: y191 :: y192 :: y193 :: y194 :: y195 :: y196 :: y197 :: y198 :: y199 :: y200 :: y201 :: y202 :: y203 :: y204 :: x205 :: x206 :: x207 :: x208 :: x209 :: x210 :: x211 :: x212 :: x213 :: x214 :: x215 :: x216 :: x217 :: x218 :: x219 :: x220 :: x221 :: x222 :: x223 :: x224 :: x225 :: x226 :: x227 :: x228 :: x229 :: x230 :: x231 :: x232 :: x233 :: x234 :: x235 :: x236 :: x237 :: x238 :: x239 :: x240 :: x241 :: x242 :: x243 :: x244 :: x245 :: x246 :: x247 :: x248 :: x249 :: x250 :: x251 :: x252 :: x253 :: x254 :: x255 :: x256 :: x257 :: x258 :: x259 :: x260 :: x261 :: x262 :: x263 :: x264 :: x265 :: x266 :: x267 :: x268 :: x269 :: x270 :: x271 :: x272 :: x273 :: x274 :: x275 :: x276 :: x277 :: x278 :: x279 :: x280 :: x281 :: x282 :: x283 :: x284 :: x285 :: x286 :: x287 :: []), defers := [] } W') :
    Code.wp Try.prog (regionAt Try.f14 28) Q { tmps := List.toArray (x0 :: x1 :: x2 :: (.pointer (some ⟨w.heap.size, 0, none⟩)) :: (.pointer (some ⟨w.heap.size + 1, 0, none⟩)) :: x5 :: x6 :: (.slice (some ⟨b, o, none⟩) L cap) :: x8 :: (.int .i64 J) :: (.pointer (some ⟨N, 0, none⟩)) :: (.pointer (some ⟨N + 1, 0, none⟩)) :: (.int .i64 t) :: x13 :: x14 :: x15 :: x16 :: x17 :: x18 :: x19 :: x20 :: x21 :: x22 :: x23 :: x24 :: x25 :: x26 :: x27 :: x28 :: x29 :: x30 :: x31 :: x32 :: x33 :: x34 :: x35 :: x36 :: x37 :: x38 :: x39 :: x40 :: x41 :: x42 :: x43 :: x44 :: x45 :: x46 :: x47 :: x48 :: x49 :: x50 :: x51 :: x52 :: x53 :: x54 :: x55 :: x56 :: x57 :: x58 :: x59 :: x60 :: x61 :: x62 :: x63 :: x64 :: x65 :: x66 :: x67 :: x68 :: x69 :: x70 :: x71 :: x72 :: x73 :: x74 :: x75 :: x76 :: x77 :: x78 :: x79 :: x80 :: x81 :: x82 :: x83 :: x84 :: x85 :: x86 :: x87 :: x88 :: x89 :: x90 :: x91 :: x92 :: x93 :: x94 :: x95 :: x96 :: x97 :: x98 :: x99 :: x100 :: x101 :: x102 :: x103 :: x104 :: x105 :: x106 :: x107 :: x108 :: x109 :: x110 :: x111 :: x112 :: x113 :: x114 :: x115 :: x116 :: x117 :: x118 :: x119 :: x120 :: x121 :: x122 :: x123 :: x124 :: x125 :: x126 :: x127 :: x128 :: x129 :: x130 :: x131 :: x132 :: x133 :: x134 :: x135 :: x136 :: x137 :: x138 :: x139 :: x140 :: x141 :: x142 :: x143 :: x144 :: x145 :: x146 :: x147 :: x148 :: x149 :: x150 :: x151 :: x152 :: x153 :: x154 :: x155 :: x156 :: x157 :: x158 :: x159 :: x160 :: x161 :: x162 :: x163 :: x164 :: x165 :: x166 :: x167 :: x168 :: x169 :: x170 :: x171 :: x172 :: x173 :: x174 :: x175 :: x176 :: x177 :: x178 :: x179 :: x180 :: x181 :: x182 :: x183 :: x184 :: x185 :: x186 :: x187 :: x188 :: x189 :: x190 :: x191 :: x192 :: x193 :: x194 :: x195 :: x196 :: x197 :: x198 :: x199 :: x200 :: x201 :: x202 :: x203 :: x204 :: x205 :: x206 :: x207 :: x208 :: x209 :: x210 :: x211 :: x212 :: x213 :: x214 :: x215 :: x216 :: x217 :: x218 :: x219 :: x220 :: x221 :: x222 :: x223 :: x224 :: x225 :: x226 :: x227 :: x228 :: x229 :: x230 :: x231 :: x232 :: x233 :: x234 :: x235 :: x236 :: x237 :: x238 :: x239 :: x240 :: x241 :: x242 :: x243 :: x244 :: x245 :: x246 :: x247 :: x248 :: x249 :: x250 :: x251 :: x252 :: x253 :: x254 :: x255 :: x256 :: x257 :: x258 :: x259 :: x260 :: x261 :: x262 :: x263 :: x264 :: x265 :: x266 :: x267 :: x268 :: x269 :: x270 :: x271 :: x272 :: x273 :: x274 :: x275 :: x276 :: x277 :: x278 :: x279 :: x280 :: x281 :: x282 :: x283 :: x284 :: x285 :: x286 :: x287 :: []), defers := [] } W := by
  conv => arg 2; whnf
  have HQ := Lib.hid hQ
  clear hQ
  have ht64 : (t : Int) < 64 := by omega
  have q0 := hB.vc hl 0 (by decide)
  have q1 := hB.vc hl 1 (by decide)
  have q2 := hB.vc hl 2 (by decide)
  have q3 := hB.vc hl 3 (by decide)
  have q4 := hB.vc hl 4 (by decide)
  have q5 := hB.vc hl 5 (by decide)
  have q6 := hB.vc hl 6 (by decide)
  have q7 := hB.vc hl 7 (by decide)
  have qk := hB.kcell h64
  have qw := hB.wcell h64
  unfold t1v at HQ
  generalize (rounds l (chunk M j) t).getD 0 0 = t0 at *
  generalize (rounds l (chunk M j) t).getD 1 0 = t1 at *
  generalize (rounds l (chunk M j) t).getD 2 0 = t2 at *
  generalize (rounds l (chunk M j) t).getD 3 0 = t3 at *
  generalize (rounds l (chunk M j) t).getD 4 0 = t4 at *
  generalize (rounds l (chunk M j) t).getD 5 0 = t5 at *
  generalize (rounds l (chunk M j) t).getD 6 0 = t6 at *
  generalize (rounds l (chunk M j) t).getD 7 0 = t7 at *
  generalize kc.getD t 0 = KK at *
  generalize (wl (chunk M j) 64).getD t 0 = WW at *
  clear q0 q1 q2 q3 h64 hl
  refine wp_flowC 36 (by kernel_rfl) (by kernel_rfl) (fun w' => RC w N b o q M l j t w' ∧ w'.cell? ⟨N + 1, 4, none⟩ = some (.int .u32 (V32 t4)) ∧ w'.cell? ⟨N + 1, 5, none⟩ = some (.int .u32 (V32 t5)) ∧ w'.cell? ⟨N + 1, 6, none⟩ = some (.int .u32 (V32 t6)) ∧ w'.cell? ⟨N + 1, 7, none⟩ = some (.int .u32 (V32 t7)) ∧ w'.cell? ⟨w.heap.size, t, none⟩ = some (.int .u32 (V32 KK)) ∧ w'.cell? ⟨N, t, none⟩ = some (.int .u32 (V32 WW)))
    (lives_and (fun _ _ h hb => h.later hb) (lives_and (lives_cell _ _) (lives_and (lives_cell _ _) (lives_and (lives_cell _ _) (lives_and (lives_cell _ _) (lives_and (lives_cell _ _) (lives_cell _ _))))))) ⟨hB, q4, q5, q6, q7, qk, qw⟩ ?_
  simp only [List.take_succ_cons, List.take_zero, List.drop_succ_cons, List.drop_zero]
  clear hB q4 q5 q6 q7 qk qw hM hj hJ hq hL hN hbN
  iterate 36
    refine' flow_D0 rfl (fun ν w2 hC hD => ?_) ?_
    rotate_left
    · have q4 := hC.2.1
      have q5 := hC.2.2.1
      have q6 := hC.2.2.2.1
      have q7 := hC.2.2.2.2.1
      have qk := hC.2.2.2.2.2.1
      have qw := hC.2.2.2.2.2.2
      clear hC hD
      go_simp
      first
        | exact ⟨Below.refl _ _, rfl⟩
        | (refine ⟨Below.refl _ _, ?_⟩
           refine (rturn_any _ _ _ (by rfl) (by decide) (by decide) _).mono ?_
           rintro e w3 ⟨rfl, n1, rfl⟩
           exact ⟨_, rfl, ext_drewN _ _, rfl⟩)
    simp only [Act.put, List.setIfInBounds_toArray, List.set_cons_zero, List.set_cons_succ]
  refine flow_nil ?_
  intro ν w2 hC hG
  have HC := Lib.hid hC.1
  clear hC hG
  go_wp2
  exact HQ.out _ _ _ _ _ _ _ _ _ _ _ _ _ _ _ _ _ _ _ _ _ _ _ _ _ _ _ _ _ _ _ _ _ _ _ _ HC.out
end Go.Proofs.Ytllnocffmlagjaa
