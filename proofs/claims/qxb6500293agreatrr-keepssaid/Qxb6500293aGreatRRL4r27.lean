import Derived.Test.Qxb6500293aGreatRRL4o
namespace Go.Proofs.Qxb6500293aGreatRR
open Go.RowKit
open Ieee (double)
set_option linter.unusedVariables false
set_option linter.unusedSimpArgs false

set_option maxRecDepth 16000 in
set_option maxHeartbeats 16000000 in
def pt_L4r27 : Sp1 (pt_L4o.a1) :=
  Sp1.mk _ (fun bxh1 => by
    intro own W m a nb tp rb bb cap M r a2 p2 a3 p3 a4 p4 a5 p5 dl hds9 kl hks9 cl hco9 HD ix1 w1 pb w2 c HPR ri np y0 ns y1 nup y2 r0 w3 u50 u51 u52 u53 u54 u55 u56 u57 u58 u59 u60 u61 u62 u63 B r1 i0x1 u65 u66 u67 jx1 kx1 i2x1 i2x2 u7 i0x2 i0x3 i0x4 i0x5 i0x6 i0x7 i0x8 i0x9 i0x10 i0x11 i0x12 i0x13 i0x14 i0x15 i0x16 i0x17 i0x18 i0x19 i0x20 i0x21 i0x22 i0x23 i0x24 i0x25 i0x26 i0x27 i0x28 i0x29 i0x30 i0x31 i0x32 i0x33 i0x34 i0x35 i0x36 i0x37 i0x38 i0x39 i0x40 i0x41 i0x42 i0x43 i0x44 i0x45 jx3 jx4 jx5 jx6 i3x1 i3x2 dk i3x3 i3x4 lx1 lx2 u68 u69 u70 u71 u72 u73 u74 u75 u76 u77 u79 u80 u81 u82 u83 u84 u85 u86 u87 u88 u89 u90 u91 u92 u93 u94 u95 u96 u97 u98 u99 u100 u101 u102 u103 u104 u105 u106 u107 u108 u109 u110 u111 i4x1 w6 nk yk r3 i1x1 w7 i6x1 i6x2 i4x2 i4x3 i4x4 i4x5 i4x6 i4x7 i4x8 i4x9 i4x10 i4x11 i4x12 i4x13 i4x14 i4x15 i4x16 i4x17 i2x3 i2x4 i2x5 i2x6 i7x1 i7x2 kk i7x3 i7x4 i3x5 i3x6 u117 u118 u119 u120 u121 u122 u123 u124 u125 u126 u128 u129 u130 u131 u132 i8x1 w6' nc yc r5 HNC HST3 i5x1 i5x2 w8 gk wr u12 i8x2 i8x3 i8x4 i8x5 i8x6 i8x7 i8x8 i8x9 i8x10 i8x11 i8x12 i8x13 i8x14 i8x15 i8x16 i8x17 i8x18 i8x19 i8x20 i8x21 i8x22 i8x23 i8x24 i8x25 i8x26 i8x27 i8x28 i8x29 i8x30 i8x31 i8x32 i8x33 i8x34 i8x35 i8x36 i8x37 i8x38 i8x39 i8x40 i8x41 i8x42 i8x43 i6x3 i6x4 i6x5 i6x6 k rk cc hkg HRK bd HBD i7x5 i7x6 i7x7 i7x8 u138 u139 u140 u141 u142 u143 u144 u145 u146 u147 u149 u150 u151 u152 u153 u154 u155 u156 u157 u158 u159 u160 u161 u162 u163 u164 u165 u166 u167 u168 u169 u170 u171 u172 u173 u174 u175 u176 u177 u178 u179 hcut hst
    have R6 := HRK.out.1.drewN 1
    have hfin := protoC_go (p := ⟨np, ns, dl, nup, kl, nk, cl, 0⟩) (M := { M with ds := dk, ks := kk }) HNC.out.1 HNC.out.2 (HRK.out.2.1.symm.trans (code_stop hst))
    obtain ⟨b0, b1, b2, b3, b4, b5, b6, b7, bz⟩ := cells8 (HRK.out.1.box (b := pb) (List.mem_singleton.2 rfl)).1
    have hpbl := (HRK.out.1.box (b := pb) (List.mem_singleton.2 rfl)).2.2.1
    obtain ⟨own6, hv6, -, -, hN6, -⟩ := R6.vm
    obtain ⟨ad, cp, ad', cp', w7, f00, happ0, f1, f2, hNf, -⟩ := hv6.prApp (by show M.pr.length ≤ 100000; have := HPR.out; omega) ⟨np, ns, dl, nup, kl, nk, cl, nc⟩
    have R7 := hN6 _ _ (hNf 0).1
    have happ : (Builtin.append_ #[51, 51] 51 #[.slice ad M.pr.length cp, .slice (some ⟨wr.heap.size, 0, none⟩) 1 1]).run Tryz.prog ((wr.drew).alloc (prO np ns dl nup kl nk cl nc)) = .ok (.slice ad' (M.pr.length + 1) cp') w7 := happ0
    have f0 : wr.cell? ⟨m, 2, none⟩ = some (.slice ad M.pr.length cp) := f00
    have f1 : w7.cell? ⟨m, 2, none⟩ = some (.slice ad M.pr.length cp) := f1
    have hml5 : m < wr.heap.size := hv6.tabR.2.2.2.2
    have hpm : ¬ pb = m := (HRK.out.1.box (b := pb) (List.mem_singleton.2 rfl)).2.2.2.1
    have hxq := (R7.box (b := pb) (List.mem_singleton.2 rfl)).1
    rw [Below.heap_setCell _ _ _ _ hpm] at hxq
    obtain ⟨x0, x1, x2, x3, x4, x5, x6, x7, xz⟩ := cells8 hxq
    clear hxq
    have HRp : Hid (Rp own W m a nb tp rb bb cap [] (protoP r M).2 (protoP r M).1 (w7.setCell ⟨m, 2, none⟩ (.slice ad' (M.pr.length + 1) cp'))) := by
      show Rp _ _ _ _ _ _ _ _ _ _ _ _ _
      rw [HST3.out, hfin]
      exact R7.drop
    clear R6 R7 hv6 hN6 hNf happ0 f00 HRK HST3 HNC HD HPR HBD hst hfin
    generalize M.pr.length = prl at *
    go_wp2_with fail
    rename_i i9x1 i9x2
    revert own W m a nb tp rb bb cap M r a2 p2 a3 p3 a4 p4 a5 p5 dl hds9 kl hks9 cl hco9 ix1 w1 pb w2 c ri np y0 ns y1 nup y2 r0 w3 u50 u51 u52 u53 u54 u55 u56 u57 u58 u59 u60 u61 u62 u63 B r1 i0x1 u65 u66 u67 jx1 kx1 i2x1 i2x2 u7 i0x2 i0x3 i0x4 i0x5 i0x6 i0x7 i0x8 i0x9 i0x10 i0x11 i0x12 i0x13 i0x14 i0x15 i0x16 i0x17 i0x18 i0x19 i0x20 i0x21 i0x22 i0x23 i0x24 i0x25 i0x26 i0x27 i0x28 i0x29 i0x30 i0x31 i0x32 i0x33 i0x34 i0x35 i0x36 i0x37 i0x38 i0x39 i0x40 i0x41 i0x42 i0x43 i0x44 i0x45 jx3 jx4 jx5 jx6 i3x1 i3x2 dk i3x3 i3x4 lx1 lx2 u68 u69 u70 u71 u72 u73 u74 u75 u76 u77 u79 u80 u81 u82 u83 u84 u85 u86 u87 u88 u89 u90 u91 u92 u93 u94 u95 u96 u97 u98 u99 u100 u101 u102 u103 u104 u105 u106 u107 u108 u109 u110 u111 i4x1 w6 nk yk r3 i1x1 i9x1 i6x1 i6x2 i4x2 i4x3 i4x4 i4x5 i4x6 i4x7 i4x8 i4x9 i4x10 i4x11 i4x12 i4x13 i4x14 i4x15 i4x16 i4x17 i2x3 i2x4 i2x5 i2x6 i7x1 i7x2 kk i7x3 i7x4 i3x5 i3x6 u117 u118 u119 u120 u121 u122 u123 u124 u125 u126 u128 u129 u130 u131 u132 i8x1 w6' nc yc r5 i5x1 w8 gk wr u12 i8x2 i8x3 i8x4 i8x5 i8x6 i8x7 i8x8 i8x9 i8x10 i8x11 i8x12 i8x13 i8x14 i8x15 i8x16 i8x17 i8x18 i8x19 i8x20 i8x21 i8x22 i8x23 i8x24 i8x25 i8x26 i8x27 i8x28 i8x29 i8x30 i8x31 i8x32 i8x33 i8x34 i8x35 i8x36 i8x37 i8x38 i8x39 i8x40 i8x41 i8x42 i8x43 i6x3 i6x4 i6x5 i6x6 k rk cc hkg bd i7x5 i7x6 u138 u139 u140 u141 u142 u143 u144 u145 u146 u147 u149 u150 u151 u152 u153 u154 u155 u156 u157 u158 u159 u160 u161 u162 u163 u164 u165 u166 u167 u168 u169 u170 u171 u172 u173 u174 u175 u176 u177 u178 u179 b0 b1 b2 b3 b4 b5 b6 b7 bz hpbl own6 ad cp ad' cp' w7 f2 hml5 hpm x0 x1 x2 x3 x4 x5 x6 x7 xz prl i9x2 happ f0 f1 HRp hcut
    exact bxh1.out
  )
end Go.Proofs.Qxb6500293aGreatRR
