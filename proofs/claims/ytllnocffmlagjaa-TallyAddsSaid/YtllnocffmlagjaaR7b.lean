/- Region 27 of ref07.Sum. Conditions: the memory as its hypotheses say. -/
import Derived.Test.YtllnocffmlagjaaR6
import Derived.Test.YtllnocffmlagjaaF2
set_option linter.unusedVariables false
namespace Go.Proofs.Ytllnocffmlagjaa
open Go.RowKit
attribute [local go_sem] flowAt flowUpon v32_xor v32_or v32_and v32_not v32_add v32_addm v32_div8 v32_div1024 u32_unsigned

set_option maxRecDepth 100000 in
set_option maxHeartbeats 4000000 in
theorem rg27 (w : World) (N b o q cap j L : Nat) (hL : L = 64 * q) (J : Int) (M : List UInt8) (l : List UInt32) (hM : M.length = 64 * q) (hj : j < q) (hJ : J = ((64 * j : Nat) : Int)) (hq : 64 * q ≤ 140737488354300) (hl : l.length = 8)
    (hN : w.heap.size + 2 ≤ N) (hbN : b < N) (t : Nat) (h16 : ¬ t < 16) (h64 : t < 64) (x0 x1 x2 x5 x6 x8 x13 x14 x15 x16 x17 x18 x19 x20 x21 x22 x23 x24 x25 x26 x27 x28 x29 x30 x31 x32 x33 x34 x35 x36 x37 x38 x39 x40 x41 x42 x43 x44 x45 x46 x47 x48 x49 x50 x51 x52 x53 x54 x55 x56 x57 x58 x59 x60 x61 x62 x63 x64 x65 x66 x67 x68 x69 x70 x71 x72 x73 x74 x75 x76 x77 x78 x79 x80 x81 x82 x83 x84 x85 x86 x87 x88 x89 x90 x91 x92 x93 x94 x95 x96 x97 x98 x99 x100 x101 x102 x103 x104 x105 x106 x107 x108 x109 x110 x111 x112 x113 x114 x115 x116 x117 x118 x119 x120 x121 x122 x123 x124 x125 x126 x127 x128 x129 x130 x131 x132 x133 x134 x135 x136 x137 x138 x139 x140 x141 x142 x143 x144 x145 x146 x147 x148 x149 x150 x151 x152 x153 x154 x155 x156 x157 x158 x159 x160 x161 x162 x163 x164 x165 x166 x167 x168 x169 x170 x171 x172 x173 x174 x175 x176 x177 x178 x179 x180 x181 x182 x183 x184 x185 x186 x187 x188 x189 x190 x191 x192 x193 x194 x195 x196 x197 x198 x199 x200 x201 x202 x203 x204 x205 x206 x207 x208 x209 x210 x211 x212 x213 x214 x215 x216 x217 x218 x219 x220 x221 x222 x223 x224 x225 x226 x227 x228 x229 x230 x231 x232 x233 x234 x235 x236 x237 x238 x239 x240 x241 x242 x243 x244 x245 x246 x247 x248 x249 x250 x251 x252 x253 x254 x255 x256 x257 x258 x259 x260 x261 x262 x263 x264 x265 x266 x267 x268 x269 x270 x271 x272 x273 x274 x275 x276 x277 x278 x279 x280 x281 x282 x283 x284 x285 x286 x287 : Value) (W : World) (hB : RB w N b o q M l j t W) (Q : Exit → Act → World → Prop)
    (hQ : ∀ (y123 y124 y125 y126 y127 y128 y129 y130 y131 y132 y133 y134 y135 y136 y137 y138 y139 y140 y141 y142 y143 y144 y145 y146 y147 y148 y149 y150 y151 y152 y153 y154 y155 y156 y157 y158 y159 y160 y161 y162 y163 y164 y165 y166 y167 y168 y169 : Value) (W' : World), RC w N b o q M l j t W' → Q .normal { tmps := List.toArray (x0 :: x1 :: x2 :: (.pointer (some ⟨w.heap.size, 0, none⟩)) :: (.pointer (some ⟨w.heap.size + 1, 0, none⟩)) :: x5 :: x6 :: (.slice (some ⟨b, o, none⟩) L cap) :: x8 :: (.int .i64 J) :: (.pointer (some ⟨N, 0, none⟩)) :: (.pointer (some ⟨N + 1, 0, none⟩)) :: (.int .i64 t) :: x13 :: x14 :: x15 :: x16 :: x17 :: x18 :: x19 :: x20 :: x21 :: x22 :: x23 :: x24 :: x25 :: x26 :: x27 :: x28 :: x29 :: x30 :: x31 :: x32 :: x33 :: x34 :: x35 :: x36 :: x37 :: x38 :: x39 :: x40 :: x41 :: x42 :: x43 :: x44 :: x45 :: x46 :: x47 :: x48 :: x49 :: x50 :: x51 :: x52 :: x53 :: x54 :: x55 :: x56 :: x57 :: x58 :: x59 :: x60 :: x61 :: x62 :: x63 :: x64 :: x65 :: x66 :: x67 :: x68 :: x69 :: x70 :: x71 :: x72 :: x73 :: x74 :: x75 :: x76 :: x77 :: x78 :: x79 :: x80 :: x81 :: x82 :: x83 :: x84 :: x85 :: x86 :: x87 :: x88 :: x89 :: x90 :: x91 :: x92 :: x93 :: x94 :: x95 :: x96 :: x97 :: x98 :: x99 :: x100 :: x101 :: x102 :: x103 :: x104 :: x105 :: x106 :: x107 :: x108 :: x109 :: x110 :: x111 :: x112 :: x113 :: x114 :: x115 :: x116 :: x117 :: x118 :: x119 :: x120 :: x121 :: x122 :: y123 :: y124 :: y125 :: y126 :: y127 :: y128 :: y129 :: y130 :: y131 :: y132 :: y133 :: y134 :: y135 :: y136 :: y137 :: y138 :: y139 :: y140 :: y141 :: y142 :: y143 :: y144 :: y145 :: y146 :: y147 :: y148 :: y149 :: y150 :: y151 :: y152 :: y153 :: y154 :: y155 :: y156 :: y157 :: y158 :: y159 :: y160 :: y161 :: y162 :: y163 :: y164 :: y165 :: y166 :: y167 :: y168 :: y169 :: x170 :: x171 :: x172 :: x173 :: x174 :: x175 :: x176 :: x177 :: x178 :: x179 :: x180 :: x181 :: x182 :: x183 :: x184 :: x185 :: x186 :: x187 :: x188 :: x189 :: x190 :: x191 :: x192 :: x193 :: x194 :: x195 :: x196 :: x197 :: x198 :: x199 :: x200 :: x201 :: x202 :: x203 :: x204 :: x205 :: x206 :: x207 :: x208 :: x209 :: x210 :: x211 :: x212 :: x213 :: x214 :: x215 :: x216 :: x217 :: x218 :: x219 :: x220 :: x221 :: x222 :: x223 :: x224 :: x225 :: x226 :: x227 :: x228 :: x229 :: x230 :: x231 :: x232 :: x233 :: x234 :: x235 :: x236 :: x237 :: x238 :: x239 :: x240 :: x241 :: x242 :: x243 :: x244 :: x245 :: x246 :: x247 :: x248 :: x249 :: x250 :: x251 :: x252 :: x253 :: x254 :: x255 :: x256 :: x257 :: x258 :: x259 :: x260 :: x261 :: x262 :: x263 :: x264 :: x265 :: x266 :: x267 :: x268 :: x269 :: x270 :: x271 :: x272 :: x273 :: x274 :: x275 :: x276 :: x277 :: x278 :: x279 :: x280 :: x281 :: x282 :: x283 :: x284 :: x285 :: x286 :: x287 :: []), defers := [] } W') :
    Code.wp Try.prog (regionAt Try.f14 27) Q { tmps := List.toArray (x0 :: x1 :: x2 :: (.pointer (some ⟨w.heap.size, 0, none⟩)) :: (.pointer (some ⟨w.heap.size + 1, 0, none⟩)) :: x5 :: x6 :: (.slice (some ⟨b, o, none⟩) L cap) :: x8 :: (.int .i64 J) :: (.pointer (some ⟨N, 0, none⟩)) :: (.pointer (some ⟨N + 1, 0, none⟩)) :: (.int .i64 t) :: x13 :: x14 :: x15 :: x16 :: x17 :: x18 :: x19 :: x20 :: x21 :: x22 :: x23 :: x24 :: x25 :: x26 :: x27 :: x28 :: x29 :: x30 :: x31 :: x32 :: x33 :: x34 :: x35 :: x36 :: x37 :: x38 :: x39 :: x40 :: x41 :: x42 :: x43 :: x44 :: x45 :: x46 :: x47 :: x48 :: x49 :: x50 :: x51 :: x52 :: x53 :: x54 :: x55 :: x56 :: x57 :: x58 :: x59 :: x60 :: x61 :: x62 :: x63 :: x64 :: x65 :: x66 :: x67 :: x68 :: x69 :: x70 :: x71 :: x72 :: x73 :: x74 :: x75 :: x76 :: x77 :: x78 :: x79 :: x80 :: x81 :: x82 :: x83 :: x84 :: x85 :: x86 :: x87 :: x88 :: x89 :: x90 :: x91 :: x92 :: x93 :: x94 :: x95 :: x96 :: x97 :: x98 :: x99 :: x100 :: x101 :: x102 :: x103 :: x104 :: x105 :: x106 :: x107 :: x108 :: x109 :: x110 :: x111 :: x112 :: x113 :: x114 :: x115 :: x116 :: x117 :: x118 :: x119 :: x120 :: x121 :: x122 :: x123 :: x124 :: x125 :: x126 :: x127 :: x128 :: x129 :: x130 :: x131 :: x132 :: x133 :: x134 :: x135 :: x136 :: x137 :: x138 :: x139 :: x140 :: x141 :: x142 :: x143 :: x144 :: x145 :: x146 :: x147 :: x148 :: x149 :: x150 :: x151 :: x152 :: x153 :: x154 :: x155 :: x156 :: x157 :: x158 :: x159 :: x160 :: x161 :: x162 :: x163 :: x164 :: x165 :: x166 :: x167 :: x168 :: x169 :: x170 :: x171 :: x172 :: x173 :: x174 :: x175 :: x176 :: x177 :: x178 :: x179 :: x180 :: x181 :: x182 :: x183 :: x184 :: x185 :: x186 :: x187 :: x188 :: x189 :: x190 :: x191 :: x192 :: x193 :: x194 :: x195 :: x196 :: x197 :: x198 :: x199 :: x200 :: x201 :: x202 :: x203 :: x204 :: x205 :: x206 :: x207 :: x208 :: x209 :: x210 :: x211 :: x212 :: x213 :: x214 :: x215 :: x216 :: x217 :: x218 :: x219 :: x220 :: x221 :: x222 :: x223 :: x224 :: x225 :: x226 :: x227 :: x228 :: x229 :: x230 :: x231 :: x232 :: x233 :: x234 :: x235 :: x236 :: x237 :: x238 :: x239 :: x240 :: x241 :: x242 :: x243 :: x244 :: x245 :: x246 :: x247 :: x248 :: x249 :: x250 :: x251 :: x252 :: x253 :: x254 :: x255 :: x256 :: x257 :: x258 :: x259 :: x260 :: x261 :: x262 :: x263 :: x264 :: x265 :: x266 :: x267 :: x268 :: x269 :: x270 :: x271 :: x272 :: x273 :: x274 :: x275 :: x276 :: x277 :: x278 :: x279 :: x280 :: x281 :: x282 :: x283 :: x284 :: x285 :: x286 :: x287 :: []), defers := [] } W := by
  conv => arg 2; whnf
  have HQ := Lib.hid hQ
  clear hQ
  have c2 := hB.cell (t - 2) (by omega)
  have c7 := hB.cell (t - 7) (by omega)
  have c15 := hB.cell (t - 15) (by omega)
  have c16 := hB.cell (t - 16) (by omega)
  have hnw : Hid (nextW (chunk M j) (wl (chunk M j) t) t = (wl (chunk M j) t).getD (t - 16) 0 + (wl (chunk M j) t).getD (t - 7) 0 + lsig0 ((wl (chunk M j) t).getD (t - 15) 0) + lsig1 ((wl (chunk M j) t).getD (t - 2) 0)) := by
    rw [Hid, nextW, if_neg h16]
  have HW := Lib.hid (fun W' (h : RB w N b o q M l j t W') => h.word h64 hN hbN)
  have HF := Lib.hid (fun W' (h : RB w N b o q M l j t W') => h.free h64)
  rw [hnw.out] at HW
  generalize (wl (chunk M j) t).getD (t - 2) 0 = X2 at *
  generalize (wl (chunk M j) t).getD (t - 7) 0 = X7 at *
  generalize (wl (chunk M j) t).getD (t - 15) 0 = X15 at *
  generalize (wl (chunk M j) t).getD (t - 16) 0 = X16 at *
  have hcomm : X16 + X7 + lsig0 X15 + lsig1 X2 = lsig1 X2 + X7 + lsig0 X15 + X16 := by
    rw [UInt32.add_comm (X16 + X7 + lsig0 X15), UInt32.add_assoc X16, UInt32.add_comm X16, ← UInt32.add_assoc, ← UInt32.add_assoc]
  rw [hcomm] at HW
  unfold lsig0 lsig1 at HW
  have e2 : IntKind.i64.wrap ((t : Int) - 2) = (t : Int) - 2 := IntWalk.i64_in _ (by omega)
  have e7 : IntKind.i64.wrap ((t : Int) - 7) = (t : Int) - 7 := IntWalk.i64_in _ (by omega)
  have e15 : IntKind.i64.wrap ((t : Int) - 15) = (t : Int) - 15 := IntWalk.i64_in _ (by omega)
  have e16 : IntKind.i64.wrap ((t : Int) - 16) = (t : Int) - 16 := IntWalk.i64_in _ (by omega)
  have n2 : ((t : Int) - 2).toNat = t - 2 := by omega
  have n7 : ((t : Int) - 7).toNat = t - 7 := by omega
  have n15 : ((t : Int) - 15).toNat = t - 15 := by omega
  have n16 : ((t : Int) - 16).toNat = t - 16 := by omega
  have g2 : (2 : Int) ≤ (t : Int) := by omega
  have g7 : (7 : Int) ≤ (t : Int) := by omega
  have g15 : (15 : Int) ≤ (t : Int) := by omega
  have g16 : (16 : Int) ≤ (t : Int) := by omega
  have k2 : (t : Int) - 2 < 64 := by omega
  have k7 : (t : Int) - 7 < 64 := by omega
  have k15 : (t : Int) - 15 < 64 := by omega
  have k16 : (t : Int) - 16 < 64 := by omega
  have ht64 : (t : Int) < 64 := by omega
  clear hnw hcomm hJ hL hq hM hj hl
  refine wp_flowC 47 (by kernel_rfl) (by kernel_rfl) (fun w' => RB w N b o q M l j t w' ∧ w'.cell? ⟨N, t - 2, none⟩ = some (.int .u32 (V32 X2)) ∧ w'.cell? ⟨N, t - 7, none⟩ = some (.int .u32 (V32 X7)) ∧ w'.cell? ⟨N, t - 15, none⟩ = some (.int .u32 (V32 X15)) ∧ w'.cell? ⟨N, t - 16, none⟩ = some (.int .u32 (V32 X16)))
    (lives_and (fun _ _ h hb => h.later hb) (lives_and (lives_cell _ _) (lives_and (lives_cell _ _) (lives_and (lives_cell _ _) (lives_cell _ _))))) ⟨hB, c2, c7, c15, c16⟩ ?_
  simp only [List.take_succ_cons, List.take_zero, List.drop_succ_cons, List.drop_zero]
  clear hB c2 c7 c15 c16 h16 h64 hN hbN
  iterate 47
    refine' flow_D0 rfl (fun ν w2 hC hD => ?_) ?_
    rotate_left
    · have d2 := hC.2.1
      have d7 := hC.2.2.1
      have d15 := hC.2.2.2.1
      have d16 := hC.2.2.2.2
      clear hC hD
      go_simp
      first
        | exact ⟨Below.refl _ _, rfl⟩
        | (refine ⟨Below.refl _ _, ?_⟩
           refine (rturn_any _ _ _ (by rfl) (by decide) (by decide) _).mono ?_
           rintro e w3 ⟨rfl, n1, rfl⟩
           exact ⟨_, rfl, ext_drewN _ _, rfl⟩)
    simp only [Act.put, List.setIfInBounds_toArray, List.set_cons_zero, List.set_cons_succ]
  refine flow_nil ?_
  intro ν w2 hC hG
  obtain ⟨⟨u, d1⟩, d2⟩ := HF.out _ hC.1
  have HC := Lib.hid (HW.out _ hC.1)
  clear hC hG e2 e7 e15 e16 n2 n7 n15 n16 g2 g7 g15 g16 k2 k7 k15 k16
  go_wp2
  exact HQ.out _ _ _ _ _ _ _ _ _ _ _ _ _ _ _ _ _ _ _ _ _ _ _ _ _ _ _ _ _ _ _ _ _ _ _ _ _ _ _ _ _ _ _ _ _ _ _ _ HC.out
end Go.Proofs.Ytllnocffmlagjaa
