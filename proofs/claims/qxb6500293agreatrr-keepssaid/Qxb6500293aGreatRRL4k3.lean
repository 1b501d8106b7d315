import Derived.Test.Qxb6500293aGreatRRL4k2
namespace Go.Proofs.Qxb6500293aGreatRR
open Go.RowKit
open Ieee (double)
set_option linter.unusedVariables false
set_option linter.unusedSimpArgs false

set_option maxRecDepth 16000 in
set_option maxHeartbeats 16000000 in
def pt_L4k3 : Sp1 (pt_L4k2.a1) :=
  Sp1.mk _ (fun bxh1 => by
    intro own W m a nb tp rb bb cap M r a2 p2 a3 p3 a4 p4 a5 p5 dl hds9 kl hks9 cl hco9 HD ix1 w1 pb w2 c HPR ri np y0 ns y1 nup y2 r0 w3 u50 u51 u52 u53 u54 u55 u56 u57 u58 u59 u60 u61 u62 u63 B r1 i0x1 u65 u66 u67 jx1 kx1 i2x1 i2x2 u7 i0x2 i0x3 i0x4 i0x5 i0x6 i0x7 i0x8 i0x9 i0x10 i0x11 i0x12 i0x13 i0x14 i0x15 i0x16 i0x17 i0x18 i0x19 i0x20 i0x21 i0x22 i0x23 i0x24 i0x25 i0x26 i0x27 i0x28 i0x29 i0x30 i0x31 i0x32 i0x33 i0x34 i0x35 i0x36 i0x37 i0x38 i0x39 i0x40 i0x41 i0x42 i0x43 i0x44 i0x45 jx3 jx4 jx5 jx6 i3x1 i3x2 dk i3x3 i3x4 lx1 lx2 u68 u69 u70 u71 u72 u73 u74 u75 u76 u77 u79 u80 u81 u82 u83 u84 u85 u86 u87 u88 u89 u90 u91 u92 u93 u94 u95 u96 u97 u98 u99 u100 u101 u102 u103 u104 u105 u106 u107 u108 u109 u110 u111 i4x1 w6 nk yk r3 i1x1 w7 gk wr i4x2 i4x3 i4x4 i4x5 i4x6 i4x7 i4x8 i4x9 i4x10 i4x11 i4x12 i4x13 i4x14 i4x15 i4x16 i4x17 i2x3 i2x4 i2x5 i2x6 k rk kk hkg bd i3x5 i3x6 u117 u118 u119 u120 u121 u122 u123 u124 u125 u126 u128 u129 u130 u131 u132 hcut w6' nc yc r5 HNC HST3 i5x1 i5x2 w8 HR7
    go_loopg [11] nc (fun g kv wr => ∃ (k : Nat) (rk : Rd) (cc : List (Nat × Nat)), kv = .int .i64 (k : Int) ∧ k + g = nc ∧ Hid (Rp own W m a nb tp rb bb cap [(pb, prO np ns dl nup kl nk cl nc)] { M with ds := dk, ks := kk, co := cc } rk wr ∧ codeF g rk cc = codeF nc r5 M.co ∧ cc.length ≤ rk.i))
    case atStart => exact ⟨0, r5, M.co, rfl, by omega, by show _ ∧ _ ∧ _; exact ⟨HR7.out.1, rfl, HR7.out.2.2⟩⟩
    case round =>
      rename_i i6x1 i6x2 i6x3 i6x4 i6x5 i6x6
      revert own W m a nb tp rb bb cap M r a2 p2 a3 p3 a4 p4 a5 p5 dl hds9 kl hks9 cl hco9 HD ix1 w1 pb w2 c HPR ri np y0 ns y1 nup y2 r0 w3 u50 u51 u52 u53 u54 u55 u56 u57 u58 u59 u60 u61 u62 u63 B r1 i0x1 u65 u66 u67 jx1 kx1 i2x1 i2x2 u7 i0x2 i0x3 i0x4 i0x5 i0x6 i0x7 i0x8 i0x9 i0x10 i0x11 i0x12 i0x13 i0x14 i0x15 i0x16 i0x17 i0x18 i0x19 i0x20 i0x21 i0x22 i0x23 i0x24 i0x25 i0x26 i0x27 i0x28 i0x29 i0x30 i0x31 i0x32 i0x33 i0x34 i0x35 i0x36 i0x37 i0x38 i0x39 i0x40 i0x41 i0x42 i0x43 i0x44 i0x45 jx3 jx4 jx5 jx6 i3x1 i3x2 dk i3x3 i3x4 lx1 lx2 u68 u69 u70 u71 u72 u73 u74 u75 u76 u77 u79 u80 u81 u82 u83 u84 u85 u86 u87 u88 u89 u90 u91 u92 u93 u94 u95 u96 u97 u98 u99 u100 u101 u102 u103 u104 u105 u106 u107 u108 u109 u110 u111 i4x1 w6 nk yk r3 i1x1 w7 i6x1 i6x2 i4x2 i4x3 i4x4 i4x5 i4x6 i4x7 i4x8 i4x9 i4x10 i4x11 i4x12 i4x13 i4x14 i4x15 i4x16 i4x17 i2x3 i2x4 i2x5 i2x6 k rk kk hkg bd i3x5 i3x6 u117 u118 u119 u120 u121 u122 u123 u124 u125 u126 u128 u129 u130 u131 u132 hcut w6' nc yc r5 HNC HST3 i5x1 i5x2 w8 HR7 gk wr u11 u12 u138 u139 u140 u141 u142 u143 u144 u145 u146 u147 u148 u149 u150 u151 u152 u153 u154 u155 u156 u157 u158 u159 u160 u161 u162 u163 u164 u165 u166 u167 u168 u169 u170 u171 u172 u173 u174 u175 u176 u177 u178 u179 hrel i6x3 i6x4 i6x5 i6x6
      exact bxh1.out
  )
end Go.Proofs.Qxb6500293aGreatRR
