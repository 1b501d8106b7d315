import Derived.Test.Qxb6500293aGreatRRL4e
namespace Go.Proofs.Qxb6500293aGreatRR
open Go.RowKit
open Ieee (double)
set_option linter.unusedVariables false
set_option linter.unusedSimpArgs false

set_option maxRecDepth 16000 in
set_option maxHeartbeats 16000000 in
def pt_L4e2 : Sp1 (pt_L4e.a1) :=
  Sp1.mk _ (fun bxh1 => by
    intro own W m a nb tp rb bb cap M r a2 p2 a3 p3 a4 p4 a5 p5 dl hds9 kl hks9 cl hco9 HD ix1 w1 pb w2 c HPR ri np y0 ns y1 nup y2 r0 w3 u50 u51 u52 u53 u54 u55 u56 u57 u58 u59 u60 u61 u62 u63 B r1 HP2 HRI wc u65 u66 u67 jx1 jx2 kx1 gk wr u7 u68 u69 u70 u71 u72 u73 u74 u75 u76 u77 u78 u79 u80 u81 u82 u83 u84 u85 u86 u87 u88 u89 u90 u91 u92 u93 u94 u95 u96 u97 u98 u99 u100 u101 u102 u103 u104 u105 u106 u107 u108 u109 u110 u111 jx3 jx4 jx5 jx6 k rk dk hkg HRK b3 bz hpbl cz hlr bd c2 HBD lx1 lx2 lx3 lx4
    go_cut [78] from 68 to 111 (fun s78 wx => s78 = .bool (decide (k < nup) && !bd) ∧ wx = wr)
    case first =>
      by_cases hkn : k < nup
      · have d1 : decide ((k : Int) < (nup : Int)) = true := decide_eq_true (by omega)
        have e1 : decide (k < nup) = true := decide_eq_true hkn
        cases bd
        · go_wp2_with fail
          go_meet
          case rel => exact ⟨by rw [e1]; rfl, rfl⟩
        · go_wp2_with fail
          go_meet
          case rel => exact ⟨by rw [e1]; rfl, rfl⟩
      · have d1 : decide ((k : Int) < (nup : Int)) = false := decide_eq_false (by omega)
        have e1 : decide (k < nup) = false := decide_eq_false hkn
        go_wp2_with fail
        go_meet
        case rel => exact ⟨by rw [e1]; rfl, rfl⟩
    case rest =>
      rename_i i0x1 i0x2 i0x3 i0x4 i0x5 i0x6 i0x7 i0x8 i0x9 i0x10 i0x11 i0x12 i0x13 i0x14 i0x15 i0x16 i0x17 i0x18 i0x19 i0x20 i0x21 i0x22 i0x23 i0x24 i0x25 i0x26 i0x27 i0x28 i0x29 i0x30 i0x31 i0x32 i0x33 i0x34 i0x35 i0x36 i0x37 i0x38 i0x39 i0x40 i0x41 i0x42 i0x43 i0x44 i0x45
      revert own W m a nb tp rb bb cap M r a2 p2 a3 p3 a4 p4 a5 p5 dl hds9 kl hks9 cl hco9 HD ix1 w1 pb w2 c HPR ri np y0 ns y1 nup y2 r0 w3 u50 u51 u52 u53 u54 u55 u56 u57 u58 u59 u60 u61 u62 u63 B r1 HP2 HRI i0x1 u65 u66 u67 jx1 jx2 kx1 gk wr u7 i0x2 i0x3 i0x4 i0x5 i0x6 i0x7 i0x8 i0x9 i0x10 i0x11 i0x12 i0x13 i0x14 i0x15 i0x16 i0x17 i0x18 i0x19 i0x20 i0x21 i0x22 i0x23 i0x24 i0x25 i0x26 i0x27 i0x28 i0x29 i0x30 i0x31 i0x32 i0x33 i0x34 i0x35 i0x36 i0x37 i0x38 i0x39 i0x40 i0x41 i0x42 i0x43 i0x44 i0x45 jx3 jx4 jx5 jx6 k rk dk hkg HRK b3 bz hpbl cz hlr bd c2 HBD lx1 lx2 lx3 lx4 wc u68 u69 u70 u71 u72 u73 u74 u75 u76 u77 u78 u79 u80 u81 u82 u83 u84 u85 u86 u87 u88 u89 u90 u91 u92 u93 u94 u95 u96 u97 u98 u99 u100 u101 u102 u103 u104 u105 u106 u107 u108 u109 u110 u111 hcut
      exact bxh1.out
  )
end Go.Proofs.Qxb6500293aGreatRR
