import Derived.Test.Qxb6500293aGreatRRY49t26a
namespace Go.Proofs.Qxb6500293aGreatRR
open Go.RowKit
open Ieee (double)
set_option linter.unusedVariables false
set_option linter.unusedSimpArgs false
set_option maxRecDepth 16000 in
set_option maxHeartbeats 16000000 in
def pt_Y49t26b : Sp1 (pt_Y49t26a.a1) :=
  Sp1.mk _ (fun bxh1 => by
    intro own W m a nb tp M i hi g0 HG0 HR0 ix1 ix2 gk wr u8 u9 u10 u11 u12 u13 u14 u15 u16 u17 u18 u19 u20 u21 u22 u23 u24 u25 u26 u27 u28 u29 u30 u31 u32 u33 u34 u35 u36 u37 u38 u39 u40 u41 u42 u43 u44 u45 u46 u47 u48 u49 u50 u51 u52 u53 u54 u55 u56 u57 u58 u59 u60 u61 u62 u63 u64 u65 u66 u67 u68 u69 u70 u71 u72 u73 u74 u75 u76 u77 u78 u79 u80 u81 u82 u83 u84 u85 u86 u87 u88 u89 u90 u91 u92 u93 u94 u95 u96 u97 u98 u99 u100 u101 u102 u103 u104 u105 u106 u107 u108 u109 u110 u111 u112 u113 u114 u115 u116 u117 u118 u119 u120 u121 u122 u123 u124 u125 u126 u127 u128 u129 u130 u131 u132 u133 u134 u135 u136 u137 u138 u139 u140 u141 u142 u143 u144 u145 u146 u147 u148 u149 u150 u151 u152 u153 u154 u155 u156 u157 u158 u159 u160 u161 u162 u163 u164 u165 u166 u167 u168 u169 u170 u171 u172 u173 u174 u175 u176 u177 u178 u179 u180 u181 u182 u183 u184 u185 u186 u187 u188 u189 u190 u191 u192 u193 u194 u195 u196 u197 u198 u199 u200 u201 u202 u203 u204 u205 u206 u207 u208 u209 u210 u211 u212 u213 u214 u215 u216 u217 u218 u219 u220 ix3 ix4 ix5 ix6 Mx hix fs kx1 fb n cp pb pn pcp cb cn ccp clo P pc base ns nc co l2 l12 l13 l20 l21 l22 l23 l24 l25 l26 hpc HX hpc' nq1 nq2 i1x1 w5 kx2 kx3 kx4 kx5 kx6 kx7 kx8 kx9 kx10 kx11 kx12 lx1 qb qcp x hx kl w6 bx HBX i0x1 jx2 hbl6 w7 b1 hbl7 own1 sad scp i0x2 HSK sl t1 hsl9 hbn HSL HL l1 i0x3 l3 l4 l5 l6 l7 l8 l9 l10 l11 i0x4 i0x5 l14 l15 l16 l17 l18 l19 i0x6 i0x7 i0x8 i0x9 i0x10 i0x11 i0x12 i0x13 hop jx1 b0 HSV e1a e1b e2a e2b hx3 hy1 hy2 hy3 hy4 hy5 N hNw1 hNw2 hNw3 hN9 R8q ht1 ht2 HTT HST hd1 hd2 h0 nq i1x2 i1x3 i1x4
    have R8 := R8q.out nq
    have HL8 := HL.out.drew nq
    clear R8q HL l1 l3 l4 l5 l6 l7 l8 l9 l10 l11 l14 l15 l16 l17 l18 l19 t1 b0 b1 hbl7 hd1 hd2 hNw1 hNw2 hNw3 hy1 hy2 hy3 hy4 hy5
    generalize w7.drewN nq = w8 at *
    have bb8 := (R8.box (b := bx) (o := .cells #[.int .u8 ((26 : Nat) : Int), .int .u16 (x : Int)] 169) (by simp)).1
    have b0 : w8.cell? ⟨bx, 0, none⟩ = some (.int .u8 ((26 : Nat) : Int)) := by rw [box_cell bb8]; rfl
    have hbl8 : bx < w8.heap.size := heap_lt bb8
    obtain ⟨own8, hv8, hN8, hX8, hF8, hG8⟩ := R8.vmF
    have HX8 : Hid (∀ M2 w2, Nx own8 w8 m a nb tp M2 w2 → Rn own W m a nb tp i (w2.cell? ⟨a, i * 5 + 3, none⟩) [(bx, .cells #[.int .u8 ((26 : Nat) : Int), .int .u16 (x : Int)] 169), (W.heap.size + 1, zEv), (W.heap.size, zEv)] M2 w2) := hX8
    have HG8 : Hid (∀ (o : Ou Ev) (e : Ending) (w' : World), OuEnd own8 w8 m a nb tp o evV e w' → OuEnd own W m a nb tp o evV e w') := fun _ _ _ h => hG8 h
    have h2e := HL8.eq.out
    have HJ := call_any hv8 HX.out.2.1 hix HL8.fr h2e.1 x HTT.out (by rw [← h2e.2.2.2.1, ← h2e.2.2.2.2.2.2.1]; exact HX.out.2.2.2.2)
    have HCL : Hid (Cl (callP Mx i x)) := callP_cl Mx i x
    have HRE0 : Hid ((callP Mx i x).k = 0 → (callP Mx i x).x.K = 0 → (callP Mx i x).x = noEv) := callP_ev
    clear hv8 hX8 hF8 hG8 hN8 HL8 R8 bb8 ht1 ht2 h2e HTT
    generalize callP Mx i x = o at *
    go_wp2_with fail
    rename_i i2x1 i2x2 i2x3 i2x4
    revert own W m a nb tp M i hi g0 HG0 HR0 ix1 ix2 gk wr u8 u9 u10 u11 u12 u13 u14 u15 u16 u17 u18 u19 u20 u21 u22 u23 u24 u25 u26 u27 u28 u29 u30 u31 u32 u33 u34 u35 u36 u37 u38 u39 u40 u41 u42 u43 u44 u45 u46 u47 u48 u49 u50 u51 u52 u53 u54 u55 u56 u57 u58 u59 u60 u61 u62 u63 u64 u65 u66 u67 u68 u69 u70 u71 u72 u73 u74 u75 u76 u77 u78 u79 u80 u81 u82 u83 u84 u85 u86 u87 u88 u89 u90 u91 u92 u93 u94 u95 u96 u97 u98 u99 u100 u101 u102 u103 u104 u105 u106 u107 u108 u109 u110 u111 u112 u113 u114 u115 u116 u117 u118 u119 u120 u121 u122 u123 u124 u125 u126 u127 u128 u129 u130 u131 u132 u133 u134 u135 u136 u137 u138 u139 u140 u141 u142 u143 u144 u145 u146 u147 u148 u149 u150 u151 u152 u153 u154 u155 u156 u157 u158 u159 u160 u161 u162 u163 u164 u165 u166 u167 u168 u169 u170 u171 u172 u173 u174 u175 u176 u177 u178 u179 u180 u181 u182 u183 u184 u185 u186 u187 u188 u189 u190 u191 u192 u193 u194 u195 u196 u197 u198 u199 u200 u201 u202 u203 u204 u205 u206 u207 u208 u209 u210 u211 u212 u213 u214 u215 u216 u217 u218 u219 u220 ix3 ix4 ix5 ix6 Mx hix fs kx1 fb n cp pb pn pcp cb cn ccp clo P pc base ns nc co l2 l12 l13 l20 l21 l22 l23 l24 l25 l26 hpc HX hpc' nq1 nq2 i1x1 w5 kx2 kx3 kx4 kx5 kx6 kx7 kx8 kx9 kx10 kx11 kx12 lx1 qb qcp x hx kl w6 bx HBX i0x1 jx2 hbl6 w7 own1 sad scp i0x2 HSK sl hsl9 hbn HSL i0x3 i0x4 i0x5 i0x6 i0x7 i0x8 i0x9 i0x10 i0x11 i0x12 i0x13 hop jx1 HSV e1a e1b e2a e2b hx3 N hN9 h0 nq i1x2 w8 b0 hbl8 own8 HX8 HG8 o HST HJ HCL HRE0 i2x1 i2x2 i2x3 i2x4
    exact bxh1.out
  )
end Go.Proofs.Qxb6500293aGreatRR
