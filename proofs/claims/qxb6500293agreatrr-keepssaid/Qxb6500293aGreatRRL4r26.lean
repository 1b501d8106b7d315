import Derived.Test.Qxb6500293aGreatRRL4n2
namespace Go.Proofs.Qxb6500293aGreatRR
open Go.RowKit
open Ieee (double)
set_option linter.unusedVariables false
set_option linter.unusedSimpArgs false

set_option maxRecDepth 16000 in
set_option maxHeartbeats 16000000 in
def pt_L4r26 : Sp1 (pt_L4n2.a1) :=
  Sp1.mk _ (fun bxh1 => by
    intro own W m a nb tp rb bb cap M r a2 p2 a3 p3 a4 p4 a5 p5 dl hds9 kl hks9 cl hco9 HD ix1 w1 pb w2 c HPR ri np y0 ns y1 nup y2 r0 w3 u50 u51 u52 u53 u54 u55 u56 u57 u58 u59 u60 u61 u62 u63 B r1 i0x1 u65 u66 u67 jx1 kx1 i2x1 i2x2 u7 i0x2 i0x3 i0x4 i0x5 i0x6 i0x7 i0x8 i0x9 i0x10 i0x11 i0x12 i0x13 i0x14 i0x15 i0x16 i0x17 i0x18 i0x19 i0x20 i0x21 i0x22 i0x23 i0x24 i0x25 i0x26 i0x27 i0x28 i0x29 i0x30 i0x31 i0x32 i0x33 i0x34 i0x35 i0x36 i0x37 i0x38 i0x39 i0x40 i0x41 i0x42 i0x43 i0x44 i0x45 jx3 jx4 jx5 jx6 i3x1 i3x2 dk i3x3 i3x4 lx1 lx2 u68 u69 u70 u71 u72 u73 u74 u75 u76 u77 u79 u80 u81 u82 u83 u84 u85 u86 u87 u88 u89 u90 u91 u92 u93 u94 u95 u96 u97 u98 u99 u100 u101 u102 u103 u104 u105 u106 u107 u108 u109 u110 u111 i4x1 w6 nk yk r3 i1x1 w7 i6x1 i6x2 i4x2 i4x3 i4x4 i4x5 i4x6 i4x7 i4x8 i4x9 i4x10 i4x11 i4x12 i4x13 i4x14 i4x15 i4x16 i4x17 i2x3 i2x4 i2x5 i2x6 i7x1 i7x2 kk i7x3 i7x4 i3x5 i3x6 u117 u118 u119 u120 u121 u122 u123 u124 u125 u126 u128 u129 u130 u131 u132 i8x1 w6' nc yc r5 HNC HST3 i5x1 i5x2 w8 wr u12 i8x2 i8x3 i8x4 i8x5 i8x6 i8x7 i8x8 i8x9 i8x10 i8x11 i8x12 i8x13 i8x14 i8x15 i8x16 i8x17 i8x18 i8x19 i8x20 i8x21 i8x22 i8x23 i8x24 i8x25 i8x26 i8x27 i8x28 i8x29 i8x30 i8x31 i8x32 i8x33 i8x34 i8x35 i8x36 i8x37 i8x38 i8x39 i8x40 i8x41 i8x42 i8x43 i6x3 i6x4 i6x5 k rk cc u138 u139 u140 u141 u142 u143 u144 u145 u146 u147 u149 u150 u151 u152 u153 u154 u155 u156 u157 u158 u159 u160 u161 u162 u163 u164 u165 u166 u167 u168 u169 u170 u171 u172 u173 u174 u175 u176 u177 u178 u179 hkn HBD g i6x6 hkg HI2 HI3 i9x1 i9x2 i9x3 i9x4 i9x5 i9x6 i9x7 hcut w5 hR5 R5 c2 cz hlr HDL hb c' hc' hk' q0 q1 q2 hbl y4 y5 y6 hor
    have hgo := code_go (g := g) (co := cc) HBD.out hb
    have R6 := R5.drewN 1
    obtain ⟨own6, hv6, zr6, zb6, hN6, -⟩ := R6.vm
    obtain ⟨ad, cp, ad', cp', w7, f00, happ0, f1, f2, hNf, hkq⟩ := hv6.coApp (by show cc.length ≤ 100000; have := HDL.out.1; have := HI2.out; have := HI3.out; omega) (byte (takeP rk 3).2 0, byte (takeP rk 3).2 1 + 256 * byte (takeP rk 3).2 2)
    have R7 := hN6 _ _ (hNf 0).1
    have happ : (Builtin.append_ #[54, 54] 54 #[.slice ad cc.length cp, .slice (some ⟨w5.heap.size, 0, none⟩) 1 1]).run Tryz.prog ((w5.drew).alloc (.cells #[.int .u8 (byte (takeP rk 3).2 0 : Int), .int .u16 ((byte (takeP rk 3).2 1 + 256 * byte (takeP rk 3).2 2 : Nat) : Int)] 169)) = .ok (.slice ad' (cc.length + 1) cp') w7 := happ0
    have f0 : w5.cell? ⟨m, 5, none⟩ = some (.slice ad cc.length cp) := f00
    have f1 : w7.cell? ⟨m, 5, none⟩ = some (.slice ad cc.length cp) := f1
    have hml5 : m < w5.heap.size := hv6.tabR.2.2.2.2
    have hbm : ¬ bb = m := by
      rintro rfl
      obtain ⟨vals, L, H⟩ := hv6
      have := H.mc
      omega
    have hbq : w7.heap[bb]? = w5.heap[bb]? := by
      have h1 := hkq bb hbl (by omega) hbm
      rw [Below.heap_setCell _ _ _ _ hbm] at h1
      exact h1
    have x0 : w7.cell? ⟨bb, rk.i, none⟩ = some (.int .u8 (byte (takeP rk 3).2 0 : Int)) := (World.cell?_of_block (a := ⟨bb, rk.i, none⟩) hbq).trans q0
    have x1 : w7.cell? ⟨bb, rk.i + 1, none⟩ = some (.int .u8 (byte (takeP rk 3).2 1 : Int)) := (World.cell?_of_block (a := ⟨bb, rk.i + 1, none⟩) hbq).trans q1
    have x2 : w7.cell? ⟨bb, rk.i + 2, none⟩ = some (.int .u8 (byte (takeP rk 3).2 2 : Int)) := (World.cell?_of_block (a := ⟨bb, rk.i + 2, none⟩) hbq).trans q2
    clear hbq hkq
    have HN : Hid (Rp own W m a nb tp rb bb cap [(pb, prO np ns dl nup kl nk cl nc)] { M with ds := dk, ks := kk, co := cc ++ [(byte (takeP rk 3).2 0, byte (takeP rk 3).2 1 + 256 * byte (takeP rk 3).2 2)] } (takeP rk 3).1 (w7.setCell ⟨m, 5, none⟩ (.slice ad' (cc.length + 1) cp')) ∧ codeF g (takeP rk 3).1 (cc ++ [(byte (takeP rk 3).2 0, byte (takeP rk 3).2 1 + 256 * byte (takeP rk 3).2 2)]) = codeF nc r5 M.co ∧ (cc ++ [(byte (takeP rk 3).2 0, byte (takeP rk 3).2 1 + 256 * byte (takeP rk 3).2 2)]).length ≤ (takeP rk 3).1.i) := by
      refine ⟨R7, hgo.symm.trans HDL.out.2, ?_⟩
      rw [List.length_append, (take_ok hb HI2.out).2.1]
      show cc.length + 1 ≤ rk.i + 3
      have := HDL.out.1
      omega
    clear R5 R6 R7 hv6 hN6 hNf happ0 f00 hR5 hgo HST3 HD HPR HDL HI2 HI3 HBD HNC
    generalize byte (takeP rk 3).2 0 = d0 at *
    generalize byte (takeP rk 3).2 1 = d1' at *
    generalize byte (takeP rk 3).2 2 = d2' at *
    generalize (takeP rk 3).1 = rk2 at *
    generalize cc.length = ccl at *
    generalize rk.i = rki at *
    go_wp2_with fail
    rename_i i10x1 i10x2
    revert own W m a nb tp rb bb cap M r a2 p2 a3 p3 a4 p4 a5 p5 dl hds9 kl hks9 cl hco9 ix1 w1 pb w2 c ri np y0 ns y1 nup y2 r0 w3 u50 u51 u52 u53 u54 u55 u56 u57 u58 u59 u60 u61 u62 u63 B r1 i0x1 u65 u66 u67 jx1 kx1 i2x1 i2x2 u7 i0x2 i0x3 i0x4 i0x5 i0x6 i0x7 i0x8 i0x9 i0x10 i0x11 i0x12 i0x13 i0x14 i0x15 i0x16 i0x17 i0x18 i0x19 i0x20 i0x21 i0x22 i0x23 i0x24 i0x25 i0x26 i0x27 i0x28 i0x29 i0x30 i0x31 i0x32 i0x33 i0x34 i0x35 i0x36 i0x37 i0x38 i0x39 i0x40 i0x41 i0x42 i0x43 i0x44 i0x45 jx3 jx4 jx5 jx6 i3x1 i3x2 dk i3x3 i3x4 lx1 lx2 u68 u69 u70 u71 u72 u73 u74 u75 u76 u77 u79 u80 u81 u82 u83 u84 u85 u86 u87 u88 u89 u90 u91 u92 u93 u94 u95 u96 u97 u98 u99 u100 u101 u102 u103 u104 u105 u106 u107 u108 u109 u110 u111 i4x1 w6 nk yk r3 i1x1 i10x1 i6x1 i6x2 i4x2 i4x3 i4x4 i4x5 i4x6 i4x7 i4x8 i4x9 i4x10 i4x11 i4x12 i4x13 i4x14 i4x15 i4x16 i4x17 i2x3 i2x4 i2x5 i2x6 i7x1 i7x2 kk i7x3 i7x4 i3x5 i3x6 u117 u118 u119 u120 u121 u122 u123 u124 u125 u126 u128 u129 u130 u131 u132 i8x1 w6' nc yc r5 i5x1 i5x2 w8 wr u12 i8x2 i8x3 i8x4 i8x5 i8x6 i8x7 i8x8 i8x9 i8x10 i8x11 i8x12 i8x13 i8x14 i8x15 i8x16 i8x17 i8x18 i8x19 i8x20 i8x21 i8x22 i8x23 i8x24 i8x25 i8x26 i8x27 i8x28 i8x29 i8x30 i8x31 i8x32 i8x33 i8x34 i8x35 i8x36 i8x37 i8x38 i8x39 i8x40 i8x41 i8x42 i8x43 i6x3 i6x4 i6x5 k rk cc u138 u139 u140 u141 u142 u143 u144 u145 u146 u147 u149 u150 u151 u152 u153 u154 u155 u156 u157 u158 u159 u160 u161 u162 u163 u164 u165 u166 u167 u168 u169 u170 u171 u172 u173 u174 u175 u176 u177 u178 u179 hkn g i6x6 hkg i9x1 i9x2 i9x3 hcut w5 c2 cz hlr c' hc' hbl own6 zr6 zb6 ad cp ad' cp' w7 f2 hml5 hbm d0 y4 d1' y5 d2' y6 hor rk2 hb ccl i10x2 f0 f1 happ HN rki q0 x0 q1 x1 q2 x2 hk'
    exact bxh1.out
  )
end Go.Proofs.Qxb6500293aGreatRR
