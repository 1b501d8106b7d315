import Derived.Test.Qxb6500293aGreatRRY49a
namespace Go.Proofs.Qxb6500293aGreatRR
open Go.RowKit
open Ieee (double)
set_option linter.unusedVariables false
set_option linter.unusedSimpArgs false
set_option maxRecDepth 16000 in
set_option maxHeartbeats 16000000 in
theorem th_Y49b : pt_Y49a.a1 := by
  intro own W m a nb tp M i hi g0 HG0 HR0 ix1 ix2 gk wr u8 u9 u10 u11 u12 u13 u14 u15 u16 u17 u18 u19 u20 u21 u22 u23 u24 u25 u26 u27 u28 u29 u30 u31 u32 u33 u34 u35 u36 u37 u38 u39 u40 u41 u42 u43 u44 u45 u46 u47 u48 u49 u50 u51 u52 u53 u54 u55 u56 u57 u58 u59 u60 u61 u62 u63 u64 u65 u66 u67 u68 u69 u70 u71 u72 u73 u74 u75 u76 u77 u78 u79 u80 u81 u82 u83 u84 u85 u86 u87 u88 u89 u90 u91 u92 u93 u94 u95 u96 u97 u98 u99 u100 u101 u102 u103 u104 u105 u106 u107 u108 u109 u110 u111 u112 u113 u114 u115 u116 u117 u118 u119 u120 u121 u122 u123 u124 u125 u126 u127 u128 u129 u130 u131 u132 u133 u134 u135 u136 u137 u138 u139 u140 u141 u142 u143 u144 u145 u146 u147 u148 u149 u150 u151 u152 u153 u154 u155 u156 u157 u158 u159 u160 u161 u162 u163 u164 u165 u166 u167 u168 u169 u170 u171 u172 u173 u174 u175 u176 u177 u178 u179 u180 u181 u182 u183 u184 u185 u186 u187 u188 u189 u190 u191 u192 u193 u194 u195 u196 u197 u198 u199 u200 u201 u202 u203 u204 u205 u206 u207 u208 u209 u210 u211 u212 u213 u214 u215 u216 u217 u218 u219 u220 ix3 ix4 ix5 ix6 Mx HR hg hA hix hlp fs R0 own1 hv1 hN1 hX1 fb n cp pb pn pcp cb cn ccp clo P pc base ns nc co HL l1 l2 l3 l4 l5 l6 l7 l8 l9 l10 l11 l12 l13 l14 l15 l16 l17 l18 l19 l20 l21 l22 l23 l24 l25 l26 HEQ hpc
  have HO : Hid (loopP M i = trp Mx noEv 11) := by
    have e : stepP Mx i = trp Mx noEv 11 := by
      unfold stepP
      simp only
      rw [if_pos (by rw [← HEQ.out.2.2.2.1, ← HEQ.out.2.2.2.2.2.2.1]; exact hpc)]
    rw [hlp, loopP_end (by rw [e]; intro h; exact absurd h.1 (show ¬ (3 : Nat) = 0 by decide)), e]
    rfl
  have HE : Hid (∀ nq, OuEnd own W m a nb tp (trp Mx noEv 11) evV (trapE 11) (wr.drewN nq)) := fun nq => .inr (.inr ⟨rfl, rfl, R0.nx.below (below_drewN (Below.refl _ _) nq)⟩)
  have hpc' : (nc : Int) ≤ (pc : Int) := by omega
  clear HR HL HEQ hlp hv1 hN1 hX1 R0 hA hg l8 l9 l10
  go_wp2_with fail
  go_quiet (fail)
  revert nq; intro nq1
  go_wp2_with fail
  go_quiet (fail)
  revert nq; intro nq2
  go_wp2_with fail
  go_quiet (fail)
  go_wp2_with fail
  refine (stop_any 11 _).mono ?_; rintro e w2 ⟨rfl, rfl⟩
  have HE2 := HE.out (nq1 + nq2 + nq)
  go_wp2_with fail
  simp [bodyPost]
  rw [HO.out]
  exact HE2
end Go.Proofs.Qxb6500293aGreatRR
