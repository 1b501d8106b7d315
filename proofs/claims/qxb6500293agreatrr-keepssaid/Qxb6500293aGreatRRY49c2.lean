import Derived.Test.Qxb6500293aGreatRRY49c
namespace Go.Proofs.Qxb6500293aGreatRR
open Go.RowKit
open Ieee (double)
set_option linter.unusedVariables false
set_option linter.unusedSimpArgs false
set_option maxRecDepth 16000 in
set_option maxHeartbeats 16000000 in
def pt_Y49c2 : Sp1 (pt_Y49c.a1) :=
  Sp1.mk _ (fun bxh1 => by
    intro own W m a nb tp M i hi g0 HG0 HR0 ix1 ix2 gk wr u8 u9 u10 u11 u12 u13 u14 u15 u16 u17 u18 u19 u20 u21 u22 u23 u24 u25 u26 u27 u28 u29 u30 u31 u32 u33 u34 u35 u36 u37 u38 u39 u40 u41 u42 u43 u44 u45 u46 u47 u48 u49 u50 u51 u52 u53 u54 u55 u56 u57 u58 u59 u60 u61 u62 u63 u64 u65 u66 u67 u68 u69 u70 u71 u72 u73 u74 u75 u76 u77 u78 u79 u80 u81 u82 u83 u84 u85 u86 u87 u88 u89 u90 u91 u92 u93 u94 u95 u96 u97 u98 u99 u100 u101 u102 u103 u104 u105 u106 u107 u108 u109 u110 u111 u112 u113 u114 u115 u116 u117 u118 u119 u120 u121 u122 u123 u124 u125 u126 u127 u128 u129 u130 u131 u132 u133 u134 u135 u136 u137 u138 u139 u140 u141 u142 u143 u144 u145 u146 u147 u148 u149 u150 u151 u152 u153 u154 u155 u156 u157 u158 u159 u160 u161 u162 u163 u164 u165 u166 u167 u168 u169 u170 u171 u172 u173 u174 u175 u176 u177 u178 u179 u180 u181 u182 u183 u184 u185 u186 u187 u188 u189 u190 u191 u192 u193 u194 u195 u196 u197 u198 u199 u200 u201 u202 u203 u204 u205 u206 u207 u208 u209 u210 u211 u212 u213 u214 u215 u216 u217 u218 u219 u220 ix3 ix4 ix5 ix6 Mx hix fs own1 fb n cp pb pn pcp cb cn ccp clo P pc base ns nc co HL l1 l2 l3 l4 l5 l6 l7 l11 l12 l13 l14 l15 l16 l17 l18 l19 l20 l21 l22 l23 l24 l25 l26 hpc HRQ HX hpc' nq1 nq2 nq jx1 jx2
    have HL5 := ((HL.out.drew nq1).drew nq2).drew nq
    have R5 := ((HRQ.out.drewN nq1).drewN nq2).drewN nq
    clear l1 l3 l4 l5 l6 l7 l11 l14 l15 l16 l17 l18 l19 HRQ
    clear HL
    generalize ((wr.drewN nq1).drewN nq2).drewN nq = w5 at *
    have HL : Hid (LpC w5 m a Mx i fb n cp pb pn pcp cb cn ccp clo P pc base ns nc co) := HL5
    obtain ⟨l1, _, l3, l4, l5, l6, l7, l8, l9, l10, l11, _, _, l14, l15, l16, l17, l18, l19, _, _, _, _, _, _, _, _⟩ := HL5
    obtain ⟨own1, hv1, hN1, hX1⟩ := R5.vm
    have hA := HX.out.2.1
    have hlt : co + pc < Mx.co.length := by
      have h1 := (hA.st.win _ (hA.prc (hA.runs hix).2.2.2.1)).2.2
      have h2 := HL.out.eq.out
      rw [← h2.2.2.2.2.2.2.1, ← h2.2.2.2.2.2.2.2] at h1
      omega
    obtain ⟨qb, qcp, k1, k2, k3, k4, k5, k6⟩ := hv1.coE (k := co + pc) hlt
    have hcol := hA.st.lco
    have hcm := hA.st.co (Mx.co[co + pc]?.getD (0, 0)) (by rw [List.getElem?_eq_getElem hlt]; exact List.getElem_mem hlt)
    obtain ⟨c, hc⟩ : ∃ c, c = Mx.co[co + pc]?.getD (0, 0) := ⟨_, rfl⟩
    rw [← hc] at k5 k6 hcm
    have HC : Hid (c = Mx.co[co + pc]?.getD (0, 0)) := hc
    clear hc
    obtain ⟨op, x⟩ := c
    obtain ⟨hop, hx⟩ := hcm
    simp only at hop hx k5 k6
    have HSO : Hid (∀ w, Below w5.heap.size w5 w → Calls Tryz.prog 86 #[.pointer (some ⟨m, 0, none⟩), .pointer (some ⟨a, i * 5, none⟩), .pointer (some ⟨fb, n * 5, none⟩), .pointer (some ⟨pb, P * 8, none⟩), .int .u8 (op : Int), i64 x] w fun e w' => e = .returned (.bool (soundP Mx i op x)) ∧ Below w.heap.size w w') := by
      intro w hb
      have hF : PlF w m a Mx i fb n cp pb := ⟨(hb.cell (p := ⟨a, i * 5 + 3, none⟩) l14).trans l1, HL.out.eq.out.1, ⟨pn, pcp, (hb.cell (p := ⟨m, 2, none⟩) l15).trans l3⟩⟩
      exact sound_any (hv1.below hb) hA hix hF HL.out.eq.out.2.2.1 op x hop hx
    have hwk : IntKind.i64.wrap ((co : Int) + (pc : Int)) = ((co + pc : Nat) : Int) := by rw [IntWalk.i64_in _ ⟨by omega, by omega⟩, Int.natCast_add]
    have hbd1 : (0 : Int) ≤ (co : Int) + (pc : Int) := by omega
    generalize hKL : Mx.co.length = kl at *
    have hbd2 : (co : Int) + (pc : Int) < (kl : Int) := by omega
    have hbd3 : ((co : Int) + (pc : Int)).toNat = co + pc := by omega
    clear hv1 hN1 hX1 hA hKL
    rename_i kx1 kx2 kx3 kx4 kx5 kx6 kx7 kx8 kx9 kx10 kx11 kx12
    revert own W m a nb tp M i hi g0 HG0 HR0 ix1 ix2 gk wr u8 u9 u10 u11 u12 u13 u14 u15 u16 u17 u18 u19 u20 u21 u22 u23 u24 u25 u26 u27 u28 u29 u30 u31 u32 u33 u34 u35 u36 u37 u38 u39 u40 u41 u42 u43 u44 u45 u46 u47 u48 u49 u50 u51 u52 u53 u54 u55 u56 u57 u58 u59 u60 u61 u62 u63 u64 u65 u66 u67 u68 u69 u70 u71 u72 u73 u74 u75 u76 u77 u78 u79 u80 u81 u82 u83 u84 u85 u86 u87 u88 u89 u90 u91 u92 u93 u94 u95 u96 u97 u98 u99 u100 u101 u102 u103 u104 u105 u106 u107 u108 u109 u110 u111 u112 u113 u114 u115 u116 u117 u118 u119 u120 u121 u122 u123 u124 u125 u126 u127 u128 u129 u130 u131 u132 u133 u134 u135 u136 u137 u138 u139 u140 u141 u142 u143 u144 u145 u146 u147 u148 u149 u150 u151 u152 u153 u154 u155 u156 u157 u158 u159 u160 u161 u162 u163 u164 u165 u166 u167 u168 u169 u170 u171 u172 u173 u174 u175 u176 u177 u178 u179 u180 u181 u182 u183 u184 u185 u186 u187 u188 u189 u190 u191 u192 u193 u194 u195 u196 u197 u198 u199 u200 u201 u202 u203 u204 u205 u206 u207 u208 u209 u210 u211 u212 u213 u214 u215 u216 u217 u218 u219 u220 ix3 ix4 ix5 ix6 Mx hix fs kx1 fb n cp pb pn pcp cb cn ccp clo P pc base ns nc co l2 l12 l13 l20 l21 l22 l23 l24 l25 l26 hpc HX hpc' nq1 nq2 nq jx1 jx2 w5 R5 HL l1 kx2 l3 l4 l5 l6 l7 l8 l9 l10 l11 kx3 kx4 l14 l15 l16 l17 l18 l19 kx5 kx6 kx7 kx8 kx9 kx10 kx11 kx12 own1 qb qcp k3 k4 op x k6 k5 HC hop hx HSO hwk hbd1 kl hlt k1 k2 hcol hbd2 hbd3
    exact bxh1.out
  )
end Go.Proofs.Qxb6500293aGreatRR
