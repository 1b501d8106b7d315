import Derived.Test.Qxb6500293aGreatRRL4d
namespace Go.Proofs.Qxb6500293aGreatRR
open Go.RowKit
open Ieee (double)
set_option linter.unusedVariables false
set_option linter.unusedSimpArgs false

set_option maxRecDepth 16000 in
set_option maxHeartbeats 16000000 in
def pt_L4e : Sp1 (pt_L4d.a1) :=
  Sp1.mk _ (fun bxh1 => by
    intro own W m a nb tp rb bb cap M r a2 p2 a3 p3 a4 p4 a5 p5 dl hds9 kl hks9 cl hco9 HD ix1 w1 pb w2 c HPR ri np y0 ns y1 nup y2 r0 w3 u50 u51 u52 u53 u54 u55 u56 u57 u58 u59 u60 u61 u62 u63 B r1 HP2 HRI wc u65 u66 u67 jx1 jx2 kx1 HR5 gk wr u6 u7 u68 u69 u70 u71 u72 u73 u74 u75 u76 u77 u78 u79 u80 u81 u82 u83 u84 u85 u86 u87 u88 u89 u90 u91 u92 u93 u94 u95 u96 u97 u98 u99 u100 u101 u102 u103 u104 u105 u106 u107 u108 u109 u110 u111 hrel jx3 jx4 jx5 jx6
    obtain ⟨k, rk, dk, rfl, hkg, HRK⟩ := hrel
    obtain ⟨b0, b1, b2, b3, b4, b5, b6, b7, bz⟩ := cells8 (HRK.out.1.box (b := pb) (List.mem_singleton.2 rfl)).1
    have hpbl := (HRK.out.1.box (b := pb) (List.mem_singleton.2 rfl)).2.2.1
    obtain ⟨c0, c1, c2, cz⟩ := HRK.out.1.rd.c
    have hlr := HRK.out.1.rd.lt
    generalize hbd : rk.bad = bd at c2
    have HBD : Hid (rk.bad = bd) := hbd
    clear hbd c0 c1 b0 b1 b2 b4 b5 b6 b7 HR5
    go_upto_region 7 with fail
    rename_i lx1 lx2 lx3 lx4
    revert own W m a nb tp rb bb cap M r a2 p2 a3 p3 a4 p4 a5 p5 dl hds9 kl hks9 cl hco9 HD ix1 w1 pb w2 c HPR ri np y0 ns y1 nup y2 r0 w3 u50 u51 u52 u53 u54 u55 u56 u57 u58 u59 u60 u61 u62 u63 B r1 HP2 HRI wc u65 u66 u67 jx1 jx2 kx1 gk wr u7 u68 u69 u70 u71 u72 u73 u74 u75 u76 u77 u78 u79 u80 u81 u82 u83 u84 u85 u86 u87 u88 u89 u90 u91 u92 u93 u94 u95 u96 u97 u98 u99 u100 u101 u102 u103 u104 u105 u106 u107 u108 u109 u110 u111 jx3 jx4 jx5 jx6 k rk dk hkg HRK b3 bz hpbl cz hlr bd c2 HBD lx1 lx2 lx3 lx4
    exact bxh1.out
  )
end Go.Proofs.Qxb6500293aGreatRR
