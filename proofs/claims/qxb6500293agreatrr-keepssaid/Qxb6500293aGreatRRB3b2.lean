import Derived.Test.Qxb6500293aGreatRRB3b
namespace Go.Proofs.Qxb6500293aGreatRR
open Go.RowKit
open Ieee (double)
set_option linter.unusedVariables false
set_option linter.unusedSimpArgs false

set_option maxRecDepth 16000 in
set_option maxHeartbeats 16000000 in
def pt_B3b2 : Sp1 (pt_B3b.a1) :=
  Sp1.mk _ (fun bxh1 => by
    intro own W m a nb tp M i ca fa sa cc fc sc ml al fb fcp flt oa' oc' xa' xc' HT fn t1 st hd t0 hm1 cn m6 h24 hfn tl hi h5 c9 HH nf HF hf8 hf1 fl t3 ol hop HOC t4 sl hsk t2 xl hce HXC m8 HLN f1 s4 s1 s5 n1 n8 ix1 nq1 ix2 u19 u20 u21 u22 u23 u24 u25 u26 u27 u28 u29 u30 u31 u32 u33 u34 u35 u36 u37 u38 u39 u40 u41 u42 u43 u44 u45 u46 u47 u48 u49 u50 u51 u52 u53 u54 u55 u56 u57 u58 u59 u60 u61 u62 u63 u64 u65 u66 jx1 jx2 jx3 jx4
    go_cut [124] from 19 to 124 (fun s124 wx => s124 = .bool false ∧ wx = W.drewN nq1)
    case first =>
      rcases hd with rfl | rfl
      · have i0 : ¬ i = 0 := fun h => hm1 h rfl
        have e0 : ((i : Int) == 0) = false := by rw [beq_eq_false_iff_ne]; omega
        go_wp2_with fail
        go_meet
        case rel => exact ⟨rfl, rfl⟩
      · by_cases i0 : i = 0
        · subst i0
          go_wp2_with fail
          go_meet
          case rel => exact ⟨rfl, rfl⟩
        · have e0 : ((i : Int) == 0) = false := by rw [beq_eq_false_iff_ne]; omega
          go_wp2_with fail
          go_meet
          case rel => exact ⟨rfl, rfl⟩
    case rest =>
      rename_i kx1 kx2 kx3 kx4 kx5 kx6 kx7 kx8 kx9 kx10 kx11 kx12 kx13 kx14 kx15 kx16 kx17 kx18 kx19 kx20 kx21 kx22 kx23 kx24 kx25 kx26 kx27 kx28 kx29 kx30 kx31 kx32 kx33 kx34 kx35 kx36 kx37 kx38 kx39 kx40 kx41 kx42 kx43 kx44 kx45 kx46 kx47 kx48
      revert own W m a nb tp M i ca fa sa cc fc sc ml al fb fcp flt oa' oc' xa' xc' HT fn t1 st hd t0 hm1 cn m6 h24 hfn tl hi h5 c9 HH nf HF hf8 hf1 fl t3 ol hop HOC t4 sl hsk t2 xl hce HXC m8 HLN f1 s4 s1 s5 n1 n8 ix1 nq1 ix2 kx1 kx2 kx3 kx4 kx5 kx6 kx7 kx8 kx9 kx10 kx11 kx12 kx13 kx14 kx15 kx16 kx17 kx18 kx19 kx20 kx21 kx22 kx23 kx24 kx25 kx26 kx27 kx28 kx29 kx30 kx31 kx32 kx33 kx34 kx35 kx36 kx37 kx38 kx39 kx40 kx41 kx42 kx43 kx44 kx45 kx46 kx47 kx48 jx1 jx2 jx3 jx4 wc u19 u20 u21 u22 u23 u24 u25 u26 u27 u28 u29 u30 u31 u32 u33 u34 u35 u36 u37 u38 u39 u40 u41 u42 u43 u44 u45 u46 u47 u48 u49 u50 u51 u52 u53 u54 u55 u56 u57 u58 u59 u60 u61 u62 u63 u64 u65 u66 u67 u68 u69 u70 u71 u72 u73 u74 u75 u76 u77 u78 u79 u80 u81 u82 u83 u84 u85 u86 u87 u88 u89 u90 u91 u92 u93 u94 u95 u96 u97 u98 u99 u100 u101 u102 u103 u104 u105 u106 u107 u108 u109 u110 u111 u112 u113 u114 u115 u116 u117 u118 u119 u120 u121 u122 u123 u124 hcut
      exact bxh1.out
  )
end Go.Proofs.Qxb6500293aGreatRR
