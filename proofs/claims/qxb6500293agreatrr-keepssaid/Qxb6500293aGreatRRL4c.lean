import Derived.Test.Qxb6500293aGreatRRL4b
namespace Go.Proofs.Qxb6500293aGreatRR
open Go.RowKit
open Ieee (double)
set_option linter.unusedVariables false
set_option linter.unusedSimpArgs false

set_option maxRecDepth 16000 in
set_option maxHeartbeats 16000000 in
def pt_L4c : Sp1 (pt_L4b.a1) :=
  Sp1.mk _ (fun bxh1 => by
    intro own W m a nb tp rb bb cap M r a2 p2 a3 p3 a4 p4 a5 p5 dl hds9 kl hks9 cl hco9 HD ix1 w1 pb w2 c HPR ri np y0 ns y1 nup y2 r0 hb jx1 jx2 jx3 jx4 w3 b0 b1 b3 bz hpbl c2 cz hlr u50 u51 u52 u53 u54 u55 u56 u57 u58 u59 u60 u61 u62 u63 hcut B r1 HP2 HRB HRC HRI
    go_upto_if 64 with fail
    go_cut [] from 65 to 67 (fun wx => Hid (Rp own W m a nb tp rb bb cap [(pb, prO np ns dl nup kl 0 cl 0)] M r1 wx))
    case first =>
      cases B
      · go_wp2_with fail
        go_meet
        case rel => exact HRB.out trivial
      · go_wp2_with fail
        go_meet
        case rel => exact HRC.out trivial
    case rest =>
      rename_i kx1
      revert own W m a nb tp rb bb cap M r a2 p2 a3 p3 a4 p4 a5 p5 dl hds9 kl hks9 cl hco9 HD ix1 w1 pb w2 c HPR ri np y0 ns y1 nup y2 r0 hb jx1 jx2 w3 b0 b1 b3 bz hpbl c2 cz hlr u50 u51 u52 u53 u54 u55 u56 u57 u58 u59 u60 u61 u62 u63 kx1 B r1 HP2 HRB HRC HRI wc u65 u66 u67 hcut
      exact bxh1.out
  )
end Go.Proofs.Qxb6500293aGreatRR
