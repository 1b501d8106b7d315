import Derived.Test.Qxb6500293aGreatRRY49t22
namespace Go.Proofs.Qxb6500293aGreatRR
open Go.RowKit
open Ieee (double)
set_option linter.unusedVariables false
set_option linter.unusedSimpArgs false
set_option maxRecDepth 16000 in
set_option maxHeartbeats 16000000 in
theorem th_Y49t22a : pt_Y49t22.a1 := by
  intro own W m a nb tp M i hi g0 HG0 HR0 ix1 ix2 gk wr u8 u9 u10 u11 u12 u13 u14 u15 u16 u17 u18 u19 u20 u21 u22 u23 u24 u25 u26 u27 u28 u29 u30 u31 u32 u33 u34 u35 u36 u37 u38 u39 u40 u41 u42 u43 u44 u45 u46 u47 u48 u49 u50 u51 u52 u53 u54 u55 u56 u57 u58 u59 u60 u61 u62 u63 u64 u65 u66 u67 u68 u69 u70 u71 u72 u73 u74 u75 u76 u77 u78 u79 u80 u81 u82 u83 u84 u85 u86 u87 u88 u89 u90 u91 u92 u93 u94 u95 u96 u97 u98 u99 u100 u101 u102 u103 u104 u105 u106 u107 u108 u109 u110 u111 u112 u113 u114 u115 u116 u117 u118 u119 u120 u121 u122 u123 u124 u125 u126 u127 u128 u129 u130 u131 u132 u133 u134 u135 u136 u137 u138 u139 u140 u141 u142 u143 u144 u145 u146 u147 u148 u149 u150 u151 u152 u153 u154 u155 u156 u157 u158 u159 u160 u161 u162 u163 u164 u165 u166 u167 u168 u169 u170 u171 u172 u173 u174 u175 u176 u177 u178 u179 u180 u181 u182 u183 u184 u185 u186 u187 u188 u189 u190 u191 u192 u193 u194 u195 u196 u197 u198 u199 u200 u201 u202 u203 u204 u205 u206 u207 u208 u209 u210 u211 u212 u213 u214 u215 u216 u217 u218 u219 u220 ix3 ix4 ix5 ix6 Mx hix kx1 fb n cp pb pn pcp cb cn ccp clo P pc base ns nc co l2 l12 l13 l20 l21 l22 l23 l24 l25 l26 hpc HX hpc' nq1 nq2 i1x1 w5 kx2 kx3 kx4 kx5 kx6 kx7 kx8 kx9 kx10 kx11 kx12 lx1 qb qcp x hx kl w6 bx HBX i0x1 jx2 hbl6 w7 own1 sad scp i0x2 HSK sl hsl9 hbn HSL i0x3 i0x4 i0x5 i0x6 i0x7 i0x8 i0x9 i0x10 i0x11 i0x12 i0x13 e1 e2 e1a e1b e2a e2b N HNN hN9 h0 nq i1x2 i1x3 i1x4 w8 HN hbl8 own8 HLN hop jx1 HSV h26 c26 HTT HST b0 HN8 h21 hp1 HPC hdr HFU vT vN vS HP tr HIT HIF HTR
  go_wp2_with fail
  refine HP.mono ?_; rintro e w9 ⟨rfl, hNf⟩
  have R9 := HN8.out _ _ hNf
  have R10 := R9.alloc (vBox vT vN vS)
  clear HP hNf R9 HN8
  go_wp2_with fail
  refine (HTR _).mono ?_; rintro e w10 ⟨rfl, hb⟩
  have R11 := R10.below hb
  clear HTR hb R10
  cases tr
  · have HIN : Hid (instP Mx i 22 x = (jumpP (dropP Mx i) i x).then noEv fun M _ => ok M noEv) := HIF.out rfl
    obtain ⟨own11, hv11, hN11, hX11, hF11, hG11⟩ := R11.vmF
    have HJ := jump_any hv11 HFU.out (i := i) (by rw [hdr.2]; exact hix) R11.frs (by rw [hdr.1]; exact HLN.out) x hx (by rw [show ((dropP Mx i).t i).f = (Mx.t i).f by unfold Th.f; rw [hdr.1], ← HPC.out]; omega)
    have HFJ : Hid (∀ (o : Ou Unit) (val : Unit → Value) (e : Ending) (w' : World), o.k ≠ 0 → OuEf own11 w10 m a nb tp i o val e w' → OuEnd own W m a nb tp (⟨o.k, o.M, noEv, o.v, o.e⟩ : Ou Ev) evV e w') := fun _ _ _ _ h1 h2 => hF11 h1 h2
    have HNJ : Hid (∀ M2 w2, Nf own11 w10 m a nb tp i M2 w2 → Rn own W m a nb tp i (some (.slice (some ⟨fb, 0, none⟩) (n + 1) cp)) _ M2 w2) := hN11
    clear hv11 hX11 hF11 hG11 hN11 R11 hdr
    go_wp2_with fail
    refine HJ.mono ?_; rintro e w9 hE
    by_cases hk : (jumpP (dropP Mx i) i x).k = 0
    · have HEN : Hid (meas (jumpP (dropP Mx i) i x).M i < gk ∧ LpI own W m a nb tp i M (meas (jumpP (dropP Mx i) i x).M i) (jumpP (dropP Mx i) i x).M w9) := by
        rcases hE with ⟨_, _, hNf⟩ | ⟨h, _⟩ | ⟨h, _⟩
        · exact LpI.go HX.out.2.1 HX.out.2.2.1 HX.out.1 HX.out.2.2.2.1 (by rw [HST.out, HIN.out, then_ok hk]) (HNJ.out _ _ hNf) (by simp) (by simp)
        · omega
        · omega
      have he : e = .returned (.tuple #[]) := by
        rcases hE with ⟨_, h, _⟩ | ⟨h, _⟩ | ⟨h, _⟩
        · exact h
        · omega
        · omega
      subst he
      clear hE HJ HFJ HNJ
      go_wp2_with fail
      go_roundg (meas (jumpP (dropP Mx i) i x).M i)
      case measure => exact HEN.out.1
      case rel => exact ⟨(jumpP (dropP Mx i) i x).M, HEN.out.2⟩
    · have HE : Hid (OuEnd own W m a nb tp (loopP M i) evV e w9) := by
        have := HFJ.out _ _ _ _ hk hE
        rw [fly (by rw [HST.out, HIN.out]) HX.out.2.2.2.1 hk]
        exact this
      rcases hE with ⟨h, _⟩ | ⟨h, ⟨bb, rfl, _, _⟩, _⟩ | ⟨h, rfl, _⟩
      · exact absurd h hk
      · clear HJ HFJ HNJ
        go_wp2_with fail
        simp [bodyPost]
        exact HE.out
      · clear HJ HFJ HNJ
        go_wp2_with fail
        simp [bodyPost]
        exact HE.out
  · have HIN : Hid (instP Mx i 22 x = ok (pc1 (dropP Mx i) i) noEv) := HIT.out rfl
    clear hdr
    have hdr := dropP_fr (K := Mx) hix
    obtain ⟨g1, g2, g3, g4⟩ := R11.pc1 (by rw [hdr.2]; exact hix) (by rw [hdr.1]; exact HLN.out)
    rw [show ((dropP Mx i).t i).f = (Mx.t i).f by unfold Th.f; rw [hdr.1], ← HPC.out] at g1 g4
    have HEN : Hid (meas (pc1 (dropP Mx i) i) i < gk ∧ LpI own W m a nb tp i M (meas (pc1 (dropP Mx i) i) i) (pc1 (dropP Mx i) i) (w10.setCell ⟨fb, n * 5 + 1, none⟩ (.int .i64 ((pc : Int) + 1)))) :=
      LpI.go HX.out.2.1 HX.out.2.2.1 HX.out.1 HX.out.2.2.2.1 (by rw [HST.out, HIN.out]) (by rw [show (.int .i64 ((pc : Int) + 1) : Value) = i64 (pc + 1) by show _ = Value.int .i64 ((pc + 1 : Nat) : Int); rw [Int.natCast_add]; rfl]; exact g4) (by simp) (by simp)
    clear R11 g4 hdr
    generalize pc1 (dropP Mx i) i = M2 at *
    go_wp2_with fail
    go_roundg (meas M2 i)
    case measure => exact HEN.out.1
    case rel => exact ⟨M2, HEN.out.2⟩
end Go.Proofs.Qxb6500293aGreatRR
