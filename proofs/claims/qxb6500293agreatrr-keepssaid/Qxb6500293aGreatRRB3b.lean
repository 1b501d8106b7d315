import Derived.Test.Qxb6500293aGreatRRB3a
namespace Go.Proofs.Qxb6500293aGreatRR
open Go.RowKit
open Ieee (double)
set_option linter.unusedVariables false
set_option linter.unusedSimpArgs false

set_option maxRecDepth 16000 in
set_option maxHeartbeats 16000000 in
def pt_B3b : Sp1 (pt_B3a.a1) :=
  Sp1.mk _ (fun bxh1 => by
    intro own W m a nb tp M i ca fa sa cc fc sc ml al fb fcp flt oa' oc' xa' xc' HT fn t1 st hd t0 hm1 cn m6 h24 hfn tl hi h5 c9 HH nf HF hf8 hf1 fl t3 ol hop HOC t4 sl hsk t2 xl hce HXC m8 HLN f1 s4 s1 s5 n1 n8 ix1 nq1 ix2 ix3 ix4 ix5 ix6 wc u19 u20 u21 u22 u23 u24 u25 u26 u27 u28 u29 u30 u31 u32 u33 u34 u35 u36 u37 u38 u39 u40 u41 u42 u43 u44 u45 u46 u47 u48 u49 u50 u51 u52 u53 u54 u55 u56 u57 u58 u59 u60 u61 u62 u63 u64 u65 u66 u67 hcut
    obtain ⟨rfl, rfl⟩ := hcut
    go_upto_region 8 with fail
    rename_i jx1 jx2 jx3 jx4
    revert own W m a nb tp M i ca fa sa cc fc sc ml al fb fcp flt oa' oc' xa' xc' HT fn t1 st hd t0 hm1 cn m6 h24 hfn tl hi h5 c9 HH nf HF hf8 hf1 fl t3 ol hop HOC t4 sl hsk t2 xl hce HXC m8 HLN f1 s4 s1 s5 n1 n8 ix1 nq1 ix2 u19 u20 u21 u22 u23 u24 u25 u26 u27 u28 u29 u30 u31 u32 u33 u34 u35 u36 u37 u38 u39 u40 u41 u42 u43 u44 u45 u46 u47 u48 u49 u50 u51 u52 u53 u54 u55 u56 u57 u58 u59 u60 u61 u62 u63 u64 u65 u66 jx1 jx2 jx3 jx4
    exact bxh1.out
  )
end Go.Proofs.Qxb6500293aGreatRR
