import Derived.Test.Qxb6500293aGreatRRY49t23b3
namespace Go.Proofs.Qxb6500293aGreatRR
open Go.RowKit
open Ieee (double)
set_option linter.unusedVariables false
set_option linter.unusedSimpArgs false
set_option maxRecDepth 16000 in
set_option maxHeartbeats 16000000 in
theorem th_Y49t23bj : pt_Y49t23b3.a1 := by
  intro own W m a nb tp M i hi g0 HG0 HR0 ix1 ix2 gk wr u8 u9 u10 u11 u12 u13 u14 u15 u16 i3x1 i3x2 i3x3 i3x4 i3x5 i3x6 i3x7 i3x8 i3x9 i3x10 i3x11 i3x12 i3x13 i3x14 i3x15 i3x16 i3x17 i3x18 i3x19 i3x20 i3x21 i3x22 i3x23 i3x24 i3x25 i3x26 i3x27 i3x28 i3x29 i3x30 i3x31 i3x32 i3x33 i3x34 i3x35 i3x36 i3x37 i3x38 i3x39 i3x40 i3x41 i3x42 i3x43 i3x44 i3x45 i3x46 i3x47 i3x48 i3x49 i3x50 i3x51 i3x52 i3x53 i3x54 i3x55 i3x56 i3x57 i3x58 i3x59 i3x60 i3x61 i3x62 i3x63 i3x64 i3x65 i3x66 i3x67 i3x68 i3x69 i3x70 i3x71 i3x72 i3x73 i3x74 i3x75 i3x76 i3x77 i3x78 i3x79 i3x80 i3x81 i3x82 i3x83 i3x84 i3x85 i3x86 i3x87 i3x88 i3x89 i3x90 i3x91 i3x92 i3x93 i3x94 i3x95 i3x96 i3x97 i3x98 i3x99 i3x100 i3x101 i3x102 i3x103 i3x104 i3x105 i3x106 i3x107 i3x108 i3x109 i3x110 i3x111 i3x112 i3x113 i3x114 i3x115 i3x116 i3x117 i3x118 i3x119 i3x120 i3x121 i3x122 i3x123 i3x124 i3x125 i3x126 i3x127 i3x128 i3x129 i3x130 i3x131 i3x132 i3x133 i3x134 i3x135 i3x136 i3x137 i3x138 i3x139 i3x140 i3x141 i3x142 i3x143 i3x144 i3x145 i3x146 i3x147 i3x148 i3x149 i3x150 i3x151 i3x152 i3x153 i3x154 i3x155 i3x156 i3x157 i3x158 i3x159 i3x160 i3x161 i3x162 i3x163 i3x164 i3x165 i3x166 i3x167 i3x168 i3x169 i3x170 i3x171 i3x172 i3x173 i3x174 i3x175 i3x176 i3x177 i3x178 i3x179 i3x180 i3x181 i3x182 i3x183 i3x184 i3x185 i3x186 i3x187 i3x188 i3x189 i3x190 i3x191 i3x192 i3x193 i3x194 i3x195 i3x196 i3x197 i3x198 i3x199 i3x200 i3x201 i3x202 i3x203 i3x204 ix3 ix4 ix5 ix6 Mx hix kx1 fb n cp pb pn pcp cb cn ccp clo P pc base ns nc co l2 l12 l13 l20 l21 l22 l23 l24 l25 l26 hpc HX hpc' nq1 nq2 i1x1 w5 kx2 kx3 kx4 kx5 kx6 kx7 kx8 kx9 kx10 kx11 kx12 lx1 qb qcp x hx kl w6 bx HBX i0x1 jx2 hbl6 w7 own1 sad scp i0x2 HSK i0x3 i0x4 i0x5 i0x6 i0x7 i0x8 i0x9 i0x10 i0x11 i0x12 i0x13 e1 e2 e1a e1b e2a e2b N hN9 h0 nq i1x2 w8 HN own8 HLN hpcx hop jx1 HSV h26 c26 HTT HST h21 h22 kk sb scp8 s2 hsl9 hbn HSL HNN HKK hkk9 HPC HFU vT vN vS hwk1 i2x1 i2x2 wc u18 u19 u20 u21 u22 u23 u24 u25 u26 u27 u28 u29 u30 u31 u32 u33 u34 u35 u36 u37 u38 u39 u40 u41 u42 u43 u44 u45 u46 u47 u48 u49 u50 u51 u52 u53 u54 u55 u56 u57 u58 u59 u60 u61 u62 u63 u64 u65 u66 u67 u68 u69 u70 u71 u72 u73 u74 u75 u76 u77 u78 u79 u80 u81 u82 u83 u84 u85 u86 u87 u88 u89 u90 u91 u92 u93 u94 u95 u96 u97 u98 u99 u100 u101 u102 u103 u104 u105 u106 u107 u108 u109 u110 u111 u112 u113 u114 u115 u116 u117 u118 u119 u120 u121 u122 u123 u124 u125 u126 u127 u128 u129 u130 u131 u132 u133 u134 u135 u136 u137 u138 u139 u140 u141 u142 u143 u144 u145 u146 u147 u148 u149 u150 u151 u152 u153 u154 u155 u156 u157 u158 u159 u160 u161 u162 u163 u164 u165 u166 u167 u168 u169 u170 u171 u172 u173 u174 u175 u176 u177 u178 u179 u180 u181 u182 u183 u184 u185 u186 u187 u188 u189 u190 u191 u192 u193 u194 u195 u196 u197 u198 u199 u200 u201 u202 u203 u204 u205 u206 u207 u208 u209 u210 u211 u212 u213 u214 u215 u216 u217 u218 u219 u220 w9 HBC R9 b09 hbl9 own9 hv9 hN9' hX9 hF9 hG9 HIJ HIP
  have HIN : Hid (instP Mx i 24 x = ok (pc1 (dropP Mx i) i) noEv) := HIP.out rfl
  have HP := pop_any hv9 hix (by have := HKK.out; omega) (by have := HSK.out; omega)
  clear hv9 hX9 hF9 hG9 R9
  generalize hvv : topP Mx i = vv at HP
  clear hvv
  obtain ⟨vvT, vvN, vvS⟩ := vv
  rw [valV_mk] at HP
  have HNJ : Hid (∀ M2 w2, Nf own9 w9 m a nb tp i M2 w2 → Rn own W m a nb tp i (some (.slice (some ⟨fb, 0, none⟩) (n + 1) cp)) _ M2 w2) := hN9'
  clear hN9'
  go_wp2_with fail
  refine HP.mono ?_; rintro e w10 ⟨rfl, hNf⟩
  have R10 := HNJ.out _ _ hNf
  clear HP hNf HNJ
  have hdr := dropP_fr (K := Mx) hix
  obtain ⟨g1, g2, g3, g4⟩ := R10.pc1 (by rw [hdr.2]; exact hix) (by rw [hdr.1]; exact HLN.out)
  rw [show ((dropP Mx i).t i).f = (Mx.t i).f by unfold Th.f; rw [hdr.1], ← HPC.out] at g1 g4
  have HEN : Hid (meas (pc1 (dropP Mx i) i) i < gk ∧ LpI own W m a nb tp i M (meas (pc1 (dropP Mx i) i) i) (pc1 (dropP Mx i) i) (w10.setCell ⟨fb, n * 5 + 1, none⟩ (.int .i64 ((pc : Int) + 1)))) :=
    LpI.go HX.out.2.1 HX.out.2.2.1 HX.out.1 HX.out.2.2.2.1 (by rw [HST.out, HIN.out]) (by rw [show (.int .i64 ((pc : Int) + 1) : Value) = i64 (pc + 1) by show _ = Value.int .i64 ((pc + 1 : Nat) : Int); rw [Int.natCast_add]; rfl]; exact g4) (by simp) (by simp)
  clear R10 g4 hdr
  generalize pc1 (dropP Mx i) i = M2 at *
  go_wp2_with fail
  go_roundg (meas M2 i)
  case measure => exact HEN.out.1
  case rel => exact ⟨M2, HEN.out.2⟩
end Go.Proofs.Qxb6500293aGreatRR
