/- Region 26 of ref07.Sum. Conditions: the memory as its hypotheses say. -/
import Derived.Test.YtllnocffmlagjaaR6
set_option linter.unusedVariables false
namespace Go.Proofs.Ytllnocffmlagjaa
open Go.RowKit
attribute [local go_sem] flowAt flowUpon v32_xor v32_or v32_and v32_not v32_add v32_addm v32_div8 v32_div1024 u32_unsigned

set_option maxRecDepth 100000 in
set_option maxHeartbeats 4000000 in
theorem rg26 (w : World) (N b o q cap j L : Nat) (hL : L = 64 * q) (J : Int) (M : List UInt8) (l : List UInt32) (hM : M.length = 64 * q) (hj : j < q) (hJ : J = ((64 * j : Nat) : Int)) (hq : 64 * q ≤ 140737488354300) (hl : l.length = 8)
    (hN : w.heap.size + 2 ≤ N) (hbN : b < N) (t : Nat) (h16 : t < 16) (x0 x1 x2 x5 x6 x8 x13 x14 x15 x16 x17 x18 x19 x20 x21 x22 x23 x24 x25 x26 x27 x28 x29 x30 x31 x32 x33 x34 x35 x36 x37 x38 x39 x40 x41 x42 x43 x44 x45 x46 x47 x48 x49 x50 x51 x52 x53 x54 x55 x56 x57 x58 x59 x60 x61 x62 x63 x64 x65 x66 x67 x68 x69 x70 x71 x72 x73 x74 x75 x76 x77 x78 x79 x80 x81 x82 x83 x84 x85 x86 x87 x88 x89 x90 x91 x92 x93 x94 x95 x96 x97 x98 x99 x100 x101 x102 x103 x104 x105 x106 x107 x108 x109 x110 x111 x112 x113 x114 x115 x116 x117 x118 x119 x120 x121 x122 x123 x124 x125 x126 x127 x128 x129 x130 x131 x132 x133 x134 x135 x136 x137 x138 x139 x140 x141 x142 x143 x144 x145 x146 x147 x148 x149 x150 x151 x152 x153 x154 x155 x156 x157 x158 x159 x160 x161 x162 x163 x164 x165 x166 x167 x168 x169 x170 x171 x172 x173 x174 x175 x176 x177 x178 x179 x180 x181 x182 x183 x184 x185 x186 x187 x188 x189 x190 x191 x192 x193 x194 x195 x196 x197 x198 x199 x200 x201 x202 x203 x204 x205 x206 x207 x208 x209 x210 x211 x212 x213 x214 x215 x216 x217 x218 x219 x220 x221 x222 x223 x224 x225 x226 x227 x228 x229 x230 x231 x232 x233 x234 x235 x236 x237 x238 x239 x240 x241 x242 x243 x244 x245 x246 x247 x248 x249 x250 x251 x252 x253 x254 x255 x256 x257 x258 x259 x260 x261 x262 x263 x264 x265 x266 x267 x268 x269 x270 x271 x272 x273 x274 x275 x276 x277 x278 x279 x280 x281 x282 x283 x284 x285 x286 x287 : Value) (W : World) (hB : RB w N b o q M l j t W) (Q : Exit → Act → World → Prop)
    (hQ : ∀ (y80 y81 y82 y83 y84 y85 y86 y87 y88 y89 y90 y91 y92 y93 y94 y95 y96 y97 y98 y99 y100 y101 y102 y103 y104 y105 y106 y107 y108 y109 y110 y111 y112 y113 y114 y115 y116 y117 y118 y119 y120 y121 y122 : Value) (W' : World), RC w N b o q M l j t W' → Q .normal { tmps := List.toArray (x0 :: x1 :: x2 :: (.pointer (some ⟨w.heap.size, 0, none⟩)) :: (.pointer (some ⟨w.heap.size + 1, 0, none⟩)) :: x5 :: x6 :: (.slice (some ⟨b, o, none⟩) L cap) :: x8 :: (.int .i64 J) :: (.pointer (some ⟨N, 0, none⟩)) :: (.pointer (some ⟨N + 1, 0, none⟩)) :: (.int .i64 t) :: x13 :: x14 :: x15 :: x16 :: x17 :: x18 :: x19 :: x20 :: x21 :: x22 :: x23 :: x24 :: x25 :: x26 :: x27 :: x28 :: x29 :: x30 :: x31 :: x32 :: x33 :: x34 :: x35 :: x36 :: x37 :: x38 :: x39 :: x40 :: x41 :: x42 :: x43 :: x44 :: x45 :: x46 :: x47 :: x48 :: x49 :: x50 :: x51 :: x52 :: x53 :: x54 :: x55 :: x56 :: x57 :: x58 :: x59 :: x60 :: x61 :: x62 :: x63 :: x64 :: x65 :: x66 :: x67 :: x68 :: x69 :: x70 :: x71 :: x72 :: x73 :: x74 :: x75 :: x76 :: x77 :: x78 :: x79 :: y80 :: y81 :: y82 :: y83 :: y84 :: y85 :: y86 :: y87 :: y88 :: y89 :: y90 :: y91 :: y92 :: y93 :: y94 :: y95 :: y96 :: y97 :: y98 :: y99 :: y100 :: y101 :: y102 :: y103 :: y104 :: y105 :: y106 :: y107 :: y108 :: y109 :: y110 :: y111 :: y112 :: y113 :: y114 :: y115 :: y116 :: y117 :: y118 :: y119 :: y120 :: y121 :: y122 :: x123 :: x124 :: x125 :: x126 :: x127 :: x128 :: x129 :: x130 :: x131 :: x132 :: x133 :: x134 :: x135 :: x136 :: x137 :: x138 :: x139 :: x140 :: x141 :: x142 :: x143 :: x144 :: x145 :: x146 :: x147 :: x148 :: x149 :: x150 :: x151 :: x152 :: x153 :: x154 :: x155 :: x156 :: x157 :: x158 :: x159 :: x160 :: x161 :: x162 :: x163 :: x164 :: x165 :: x166 :: x167 :: x168 :: x169 :: x170 :: x171 :: x172 :: x173 :: x174 :: x175 :: x176 :: x177 :: x178 :: x179 :: x180 :: x181 :: x182 :: x183 :: x184 :: x185 :: x186 :: x187 :: x188 :: x189 :: x190 :: x191 :: x192 :: x193 :: x194 :: x195 :: x196 :: x197 :: x198 :: x199 :: x200 :: x201 :: x202 :: x203 :: x204 :: x205 :: x206 :: x207 :: x208 :: x209 :: x210 :: x211 :: x212 :: x213 :: x214 :: x215 :: x216 :: x217 :: x218 :: x219 :: x220 :: x221 :: x222 :: x223 :: x224 :: x225 :: x226 :: x227 :: x228 :: x229 :: x230 :: x231 :: x232 :: x233 :: x234 :: x235 :: x236 :: x237 :: x238 :: x239 :: x240 :: x241 :: x242 :: x243 :: x244 :: x245 :: x246 :: x247 :: x248 :: x249 :: x250 :: x251 :: x252 :: x253 :: x254 :: x255 :: x256 :: x257 :: x258 :: x259 :: x260 :: x261 :: x262 :: x263 :: x264 :: x265 :: x266 :: x267 :: x268 :: x269 :: x270 :: x271 :: x272 :: x273 :: x274 :: x275 :: x276 :: x277 :: x278 :: x279 :: x280 :: x281 :: x282 :: x283 :: x284 :: x285 :: x286 :: x287 :: []), defers := [] } W') :
    Code.wp Try.prog (regionAt Try.f14 26) Q { tmps := List.toArray (x0 :: x1 :: x2 :: (.pointer (some ⟨w.heap.size, 0, none⟩)) :: (.pointer (some ⟨w.heap.size + 1, 0, none⟩)) :: x5 :: x6 :: (.slice (some ⟨b, o, none⟩) L cap) :: x8 :: (.int .i64 J) :: (.pointer (some ⟨N, 0, none⟩)) :: (.pointer (some ⟨N + 1, 0, none⟩)) :: (.int .i64 t) :: x13 :: x14 :: x15 :: x16 :: x17 :: x18 :: x19 :: x20 :: x21 :: x22 :: x23 :: x24 :: x25 :: x26 :: x27 :: x28 :: x29 :: x30 :: x31 :: x32 :: x33 :: x34 :: x35 :: x36 :: x37 :: x38 :: x39 :: x40 :: x41 :: x42 :: x43 :: x44 :: x45 :: x46 :: x47 :: x48 :: x49 :: x50 :: x51 :: x52 :: x53 :: x54 :: x55 :: x56 :: x57 :: x58 :: x59 :: x60 :: x61 :: x62 :: x63 :: x64 :: x65 :: x66 :: x67 :: x68 :: x69 :: x70 :: x71 :: x72 :: x73 :: x74 :: x75 :: x76 :: x77 :: x78 :: x79 :: x80 :: x81 :: x82 :: x83 :: x84 :: x85 :: x86 :: x87 :: x88 :: x89 :: x90 :: x91 :: x92 :: x93 :: x94 :: x95 :: x96 :: x97 :: x98 :: x99 :: x100 :: x101 :: x102 :: x103 :: x104 :: x105 :: x106 :: x107 :: x108 :: x109 :: x110 :: x111 :: x112 :: x113 :: x114 :: x115 :: x116 :: x117 :: x118 :: x119 :: x120 :: x121 :: x122 :: x123 :: x124 :: x125 :: x126 :: x127 :: x128 :: x129 :: x130 :: x131 :: x132 :: x133 :: x134 :: x135 :: x136 :: x137 :: x138 :: x139 :: x140 :: x141 :: x142 :: x143 :: x144 :: x145 :: x146 :: x147 :: x148 :: x149 :: x150 :: x151 :: x152 :: x153 :: x154 :: x155 :: x156 :: x157 :: x158 :: x159 :: x160 :: x161 :: x162 :: x163 :: x164 :: x165 :: x166 :: x167 :: x168 :: x169 :: x170 :: x171 :: x172 :: x173 :: x174 :: x175 :: x176 :: x177 :: x178 :: x179 :: x180 :: x181 :: x182 :: x183 :: x184 :: x185 :: x186 :: x187 :: x188 :: x189 :: x190 :: x191 :: x192 :: x193 :: x194 :: x195 :: x196 :: x197 :: x198 :: x199 :: x200 :: x201 :: x202 :: x203 :: x204 :: x205 :: x206 :: x207 :: x208 :: x209 :: x210 :: x211 :: x212 :: x213 :: x214 :: x215 :: x216 :: x217 :: x218 :: x219 :: x220 :: x221 :: x222 :: x223 :: x224 :: x225 :: x226 :: x227 :: x228 :: x229 :: x230 :: x231 :: x232 :: x233 :: x234 :: x235 :: x236 :: x237 :: x238 :: x239 :: x240 :: x241 :: x242 :: x243 :: x244 :: x245 :: x246 :: x247 :: x248 :: x249 :: x250 :: x251 :: x252 :: x253 :: x254 :: x255 :: x256 :: x257 :: x258 :: x259 :: x260 :: x261 :: x262 :: x263 :: x264 :: x265 :: x266 :: x267 :: x268 :: x269 :: x270 :: x271 :: x272 :: x273 :: x274 :: x275 :: x276 :: x277 :: x278 :: x279 :: x280 :: x281 :: x282 :: x283 :: x284 :: x285 :: x286 :: x287 :: []), defers := [] } W := by
  conv => arg 2; whnf
  have HQ := Lib.hid hQ
  clear hQ
  have hJ0 : 0 ≤ J := by omega
  have hb : ∀ i, i < 4 → W.cell? ⟨b, o + (64 * j + 4 * t + i), none⟩ = some (.int .u8 (V32 ((chunk M j).getD (4 * t + i) 0).toUInt32)) := fun i hi => by
    rw [← v8_up, chunk_get M j (4 * t + i) (by omega), ← Nat.add_assoc (64 * j)]
    exact hB.mc _ (by omega)
  have c0 := hb 0 (by decide)
  have c1 := hb 1 (by decide)
  have c2 := hb 2 (by decide)
  have c3 := hb 3 (by decide)
  have hnw : Hid (nextW (chunk M j) (wl (chunk M j) t) t = gw ((chunk M j).getD (4 * t + 0) 0) ((chunk M j).getD (4 * t + 1) 0) ((chunk M j).getD (4 * t + 2) 0) ((chunk M j).getD (4 * t + 3) 0)) := by
    rw [Hid, nextW, if_pos h16]; rfl
  obtain ⟨⟨uf, f1⟩, f2⟩ := hB.free (by omega)
  have HC := Lib.hid ((hB.word (by omega) hN hbN).drewN 1)
  rw [hnw.out] at HC
  unfold gw at HC
  generalize (chunk M j).getD (4 * t + 0) 0 = y0 at *
  generalize (chunk M j).getD (4 * t + 1) 0 = y1 at *
  generalize (chunk M j).getD (4 * t + 2) 0 = y2 at *
  generalize (chunk M j).getD (4 * t + 3) 0 = y3 at *
  have e0 := up24 y0
  have e1 := up16 y1
  have e2 := up8 y2
  have uw : ∀ x : UInt32, IntKind.u32.wrap (V32 x) = V32 x := fun x => by have h0 := V32_nn x; have h1 := V32_lt x; rw [IntKind.wrap_u32]; omega
  have l0 := up_lt y0
  have l1 := up_lt y1
  have l2 := up_lt y2
  have l3 := up_lt y3
  have n0 := V32_nn y0.toUInt32
  have n1 := V32_nn y1.toUInt32
  have n2 := V32_nn y2.toUInt32
  have n3 := V32_nn y3.toUInt32
  have a0 : o + (64 * j + 4 * t + 0) = o + (J + 4 * (t : Int)).toNat := by omega
  have a1 : o + (64 * j + 4 * t + 1) = o + (J + 4 * (t : Int) + 1).toNat := by omega
  have a2 : o + (64 * j + 4 * t + 2) = o + (J + 4 * (t : Int) + 2).toNat := by omega
  have a3 : o + (64 * j + 4 * t + 3) = o + (J + 4 * (t : Int) + 3).toNat := by omega
  rw [a0] at c0
  rw [a1] at c1
  rw [a2] at c2
  rw [a3] at c3
  generalize y0.toUInt32 = z0 at *
  generalize y1.toUInt32 = z1 at *
  generalize y2.toUInt32 = z2 at *
  generalize y3.toUInt32 = z3 at *
  have m1 : IntKind.i64.wrap (4 * (t : Int)) = 4 * (t : Int) := IntWalk.i64_in _ (by omega)
  have s0 : IntKind.i64.wrap (J + 4 * (t : Int)) = J + 4 * (t : Int) := IntWalk.i64_in _ (by omega)
  have s1 : IntKind.i64.wrap (J + 4 * (t : Int) + 1) = J + 4 * (t : Int) + 1 := IntWalk.i64_in _ (by omega)
  have s2 : IntKind.i64.wrap (J + 4 * (t : Int) + 2) = J + 4 * (t : Int) + 2 := IntWalk.i64_in _ (by omega)
  have s3 : IntKind.i64.wrap (J + 4 * (t : Int) + 3) = J + 4 * (t : Int) + 3 := IntWalk.i64_in _ (by omega)
  have p0 : 0 ≤ J + 4 * (t : Int) := by omega
  have p1 : 0 ≤ J + 4 * (t : Int) + 1 := by omega
  have p2 : 0 ≤ J + 4 * (t : Int) + 2 := by omega
  have p3 : 0 ≤ J + 4 * (t : Int) + 3 := by omega
  have r0 : J + 4 * (t : Int) < L := by omega
  have r1 : J + 4 * (t : Int) + 1 < L := by omega
  have r2 : J + 4 * (t : Int) + 2 < L := by omega
  have r3 : J + 4 * (t : Int) + 3 < L := by omega
  have ht64 : (t : Int) < 64 := by omega
  clear hb hnw a0 a1 a2 a3 hB hJ hL h16 hJ0 hq hM hj hl hN hbN l0 l1 l2 l3 n0 n1 n2 n3
  go_still_tail 43, (by kernel_rfl)
  go_wp2
  exact HQ.out _ _ _ _ _ _ _ _ _ _ _ _ _ _ _ _ _ _ _ _ _ _ _ _ _ _ _ _ _ _ _ _ _ _ _ _ _ _ _ _ _ _ _ _ HC.out
end Go.Proofs.Ytllnocffmlagjaa
