import Derived.Test.Qxb6500293aGreatRRY49t26c
namespace Go.Proofs.Qxb6500293aGreatRR
open Go.RowKit
open Ieee (double)
set_option linter.unusedVariables false
set_option linter.unusedSimpArgs false
set_option maxRecDepth 16000 in
set_option maxHeartbeats 16000000 in
theorem th_Y49t26d : pt_Y49t26c.a1 := by
  intro own W m a nb tp M i hi g0 HG0 HR0 ix1 ix2 gk wr u8 u9 u10 u11 u12 u13 u14 u15 u16 u17 u18 u19 u20 u21 u22 u23 u24 u25 u26 u27 u28 u29 u30 u31 u32 u33 u34 u35 u36 u37 u38 u39 u40 u41 u42 u43 u44 u45 u46 u47 u48 u49 u50 u51 u52 u53 u54 u55 u56 u57 u58 u59 u60 u61 u62 u63 u64 u65 u66 u67 u68 u69 u70 u71 u72 u73 u74 u75 u76 u77 u78 u79 u80 u81 u82 u83 u84 u85 u86 u87 u88 u89 u90 u91 u92 u93 u94 u95 u96 u97 u98 u99 u100 u101 u102 u103 u104 u105 u106 u107 u108 u109 u110 u111 u112 u113 u114 u115 u116 u117 u118 u119 u120 u121 u122 u123 u124 u125 u126 u127 u128 u129 u130 u131 u132 u133 u134 u135 u136 u137 u138 u139 u140 u141 u142 u143 u144 u145 u146 u147 u148 u149 u150 u151 u152 u153 u154 u155 u156 u157 u158 u159 u160 u161 u162 u163 u164 u165 u166 u167 u168 u169 u170 u171 u172 u173 u174 u175 u176 u177 u178 u179 u180 u181 u182 u183 u184 u185 u186 u187 u188 u189 u190 u191 u192 u193 u194 u195 u196 u197 u198 u199 u200 u201 u202 u203 u204 u205 u206 u207 u208 u209 u210 u211 u212 u213 u214 u215 u216 u217 u218 u219 u220 ix3 ix4 ix5 ix6 Mx hix fs kx1 fb n cp pb pn pcp cb cn ccp clo P pc base ns nc co l2 l12 l13 l20 l21 l22 l23 l24 l25 l26 hpc HX hpc' nq1 nq2 i1x1 w5 kx2 kx3 kx4 kx5 kx6 kx7 kx8 kx9 kx10 kx11 kx12 lx1 qb qcp x hx kl w6 bx HBX i0x1 jx2 hbl6 w7 own1 sad scp i0x2 HSK sl hsl9 hbn HSL i0x3 i0x4 i0x5 i0x6 i0x7 i0x8 i0x9 i0x10 i0x11 i0x12 i0x13 hop jx1 HSV e1a e1b e2a e2b hx3 N hN9 h0 nq i1x2 w8 b0 hbl8 own8 HX8 HG8 o HST HJ HCL HRE0 i2x1 i2x2 i2x3 i2x4 e w9 hE HE9 hk
  have hnx : Nx own8 w8 m a nb tp o.M w9 := by
    rcases hE with ⟨_, _, h⟩ | ⟨h, _⟩ | ⟨h, _⟩
    · exact h
    · omega
    · omega
  have he : e = .returned (evV o.x) := by
    rcases hE with ⟨_, h, _⟩ | ⟨h, _⟩ | ⟨h, _⟩
    · exact h
    · omega
    · omega
  subst he
  have R9 := HX8.out _ _ hnx
  have HST2 : Hid (stepP Mx i = ok o.M o.x) := by
    show _ = _
    rw [HST.out]
    exact HCL.out hk
  have HRE : Hid (o.x.K = 0 → o.x = noEv) := HRE0.out hk
  have HTT : True := trivial
  clear hE HJ HX8 HG8 hnx HE9 HRE0 HCL
  generalize o.M = M2 at *
  generalize o.x = ev at *
  obtain ⟨e60, e61, e62, e63, e64, e65, e66, e67, e68, z6⟩ := cells9 (R9.box (b := W.heap.size + 1) (o := zEv) (by simp)).1
  obtain ⟨d60, d61, d62, d63, d64, d65, d66, d67, d68, z7⟩ := cells9 (R9.box (b := W.heap.size) (o := zEv) (by simp)).1
  by_cases hK : ev.K = 0
  · have he : ev = noEv := HRE.out hK
    subst he
    have HEN : Hid (meas M2 i < gk ∧ LpI own W m a nb tp i M (meas M2 i) M2 (putE w9 (W.heap.size + 1) (.int .i64 0) (.int .i64 0) (.int .i64 0) (.int .i64 0) (.int .u64 0) (.string ⟨#[]⟩) (.int .i64 0) (.int .u64 0) (.string ⟨#[]⟩))) :=
      LpI.go HX.out.2.1 HX.out.2.2.1 HX.out.1 HX.out.2.2.2.1 HST2.out (R9.setE (n := W.heap.size + 1) (e := W.heap.size) (by simp) (by simp) (by omega) (.int .i64 0) (.int .i64 0) (.int .i64 0) (.int .i64 0) (.int .u64 0) (.string ⟨#[]⟩) (.int .i64 0) (.int .u64 0) (.string ⟨#[]⟩)) (by simp) (by simp)
    clear R9 hK HRE HST2 HST HTT
    simp only [evV, noEv, nilV]
    go_wp2_with fail
    go_roundg (meas M2 i)
    case measure => exact HEN.out.1
    case rel => exact ⟨M2, HEN.out.2⟩
  · have HO : Hid (loopP M i = ok M2 ev) := by
      show _ = _
      rw [LpI.fin HX.out.2.2.2.1 (by rw [HST2.out]; intro h; exact hK h.2), HST2.out]
    have HF : Hid (∀ x0 x1 x2 x3 x4 x5 x6 x7 x8 y0 y1 y2 y3 y4 y5 y6 y7 y8, Nx own W m a nb tp M2 (putE (putE w9 (W.heap.size + 1) x0 x1 x2 x3 x4 x5 x6 x7 x8) W.heap.size y0 y1 y2 y3 y4 y5 y6 y7 y8)) := fun x0 x1 x2 x3 x4 x5 x6 x7 x8 y0 y1 y2 y3 y4 y5 y6 y7 y8 => (R9.setE (n := W.heap.size + 1) (e := W.heap.size) (by simp) (by simp) (by omega) x0 x1 x2 x3 x4 x5 x6 x7 x8).putE (by simp) y0 y1 y2 y3 y4 y5 y6 y7 y8
    obtain ⟨K, h, E, ⟨vT, vN, vS⟩, ⟨wT, wN, wS⟩⟩ := ev
    have hKn : ((K : Int) != 0) = true := by have : ¬ K = 0 := hK; simp; omega
    have hKm : (K != 0) = true := by have : ¬ K = 0 := hK; simpa using this
    clear R9 hK HRE HST2 HST HTT HX
    simp only [evV]
    go_wp2_with fail
    try rw [Exit.noGoto_ret]
    refine bodyPost_ret (v := .agg #[.int .i64 (K : Int), .int .i64 (h : Int), .int .i64 E, .int .i64 vT, .int .u64 (vN : Int), .string ⟨vS.toArray⟩, .int .i64 wT, .int .u64 (wN : Int), .string ⟨wS.toArray⟩]) (by first | (simp [results, go_sem]; done) | (simp [results, go_sem, d60, d61, d62, d63, d64, d65, d66, d67, d68]; done)) rfl ?_
    rw [HO.out]
    exact .inl ⟨rfl, rfl, HF.out _ _ _ _ _ _ _ _ _ _ _ _ _ _ _ _ _ _⟩
end Go.Proofs.Qxb6500293aGreatRR
