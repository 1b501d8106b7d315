import Derived.Test.Qxb6500293aGreatRRL4g
namespace Go.Proofs.Qxb6500293aGreatRR
open Go.RowKit
open Ieee (double)
set_option linter.unusedVariables false
set_option linter.unusedSimpArgs false

set_option maxRecDepth 16000 in
set_option maxHeartbeats 16000000 in
def pt_L4g2 : Sp1 (pt_L4g.a1) :=
  Sp1.mk _ (fun bxh1 => by
    intro own W m a nb tp rb bb cap M r a2 p2 a3 p3 a4 p4 a5 p5 dl hds9 kl hks9 cl hco9 HD ix1 w1 pb w2 c HPR ri np y0 ns y1 nup y2 r0 w3 u50 u51 u52 u53 u54 u55 u56 u57 u58 u59 u60 u61 u62 u63 B r1 HP2 HRI i0x1 u65 u66 u67 jx1 jx2 kx1 wr u7 i0x2 i0x3 i0x4 i0x5 i0x6 i0x7 i0x8 i0x9 i0x10 i0x11 i0x12 i0x13 i0x14 i0x15 i0x16 i0x17 i0x18 i0x19 i0x20 i0x21 i0x22 i0x23 i0x24 i0x25 i0x26 i0x27 i0x28 i0x29 i0x30 i0x31 i0x32 i0x33 i0x34 i0x35 i0x36 i0x37 i0x38 i0x39 i0x40 i0x41 i0x42 i0x43 i0x44 i0x45 jx3 jx4 jx5 k rk dk u68 u69 u70 u71 u72 u73 u74 u75 u76 u77 u79 u80 u81 u82 u83 u84 u85 u86 u87 u88 u89 u90 u91 u92 u93 u94 u95 u96 u97 u98 u99 u100 u101 u102 u103 u104 u105 u106 u107 u108 u109 u110 u111 hkn HBD g jx6 hkg HI2 HI3 lx1 lx2 lx3 lx4 lx5 lx6 lx7 hcut e w5 hv hR5 R5 c2 cz hlr HDL
    rcases hv with ⟨hb, rfl⟩ | ⟨hb, k0, c', rfl, hc', hk'⟩
    · rw [hb] at c2
      have HRp : Hid (Rp own W m a nb tp rb bb cap [] (protoP r M).2 (protoP r M).1 (w5.setCell ⟨rb, 2, none⟩ (.bool true))) := by
        show Rp _ _ _ _ _ _ _ _ _ _ _ _ _
        rw [HP2.out, protoA_ret (p := ⟨np, ns, dl, nup, kl, 0, cl, 0⟩) (HDL.out.2.symm.trans (descs_ret HBD.out (.inl hb)))]
        exact (R5.turn (Stp.setR _ _ _ _) R5.rd.spoilt).drop
      clear R5 hR5 HP2 HD HPR HRI HDL HI2 HI3 HBD
      go_wp2_with fail
      refine bodyPost_ret (results_none rfl _ _ _) rfl ?_
      exact ⟨rfl, HRp.out⟩
    · rw [hb] at c2
      have hk' := hk' (by omega)
      subst hk'
      have q0 := hR5.win (r := rk) (take_bs rk 2) hb HI2.out (j := 0) (by omega)
      rw [Nat.add_zero] at q0
      have q1 := hR5.win (r := rk) (take_bs rk 2) hb HI2.out (j := 1) (by omega)
      have hbl := hR5.by'.1
      have y4 := byte_lt (takeP rk 2).2 0
      have y5 := byte_lt (takeP rk 2).2 1
      by_cases h1 : 1 < byte (takeP rk 2).2 0
      · have d1 : decide ((1 : Int) < (byte (takeP rk 2).2 0 : Int)) = true := decide_eq_true (by omega)
        have HRp : Hid (Rp own W m a nb tp rb bb cap [] (protoP r M).2 (protoP r M).1 (w5.setCell ⟨rb, 2, none⟩ (.bool true))) := by
          show Rp _ _ _ _ _ _ _ _ _ _ _ _ _
          rw [HP2.out, protoA_ret (p := ⟨np, ns, dl, nup, kl, 0, cl, 0⟩) (HDL.out.2.symm.trans (descs_ret HBD.out (.inr h1)))]
          exact (R5.turn (Stp.setR _ _ _ _) R5.rd.spoilt).drop
        clear R5 hR5 HP2 HD HPR HRI HDL HI2 HI3 HBD
        go_wp2_with fail
        refine bodyPost_ret (results_none rfl _ _ _) rfl ?_
        exact ⟨rfl, HRp.out⟩
      · have d1 : decide ((1 : Int) < (byte (takeP rk 2).2 0 : Int)) = false := decide_eq_false (by omega)
        revert own W m a nb tp rb bb cap M r a2 p2 a3 p3 a4 p4 a5 p5 dl hds9 kl hks9 cl hco9 HD ix1 w1 pb w2 c HPR ri np y0 ns y1 nup y2 r0 w3 u50 u51 u52 u53 u54 u55 u56 u57 u58 u59 u60 u61 u62 u63 B r1 HP2 HRI i0x1 u65 u66 u67 jx1 jx2 kx1 wr u7 i0x2 i0x3 i0x4 i0x5 i0x6 i0x7 i0x8 i0x9 i0x10 i0x11 i0x12 i0x13 i0x14 i0x15 i0x16 i0x17 i0x18 i0x19 i0x20 i0x21 i0x22 i0x23 i0x24 i0x25 i0x26 i0x27 i0x28 i0x29 i0x30 i0x31 i0x32 i0x33 i0x34 i0x35 i0x36 i0x37 i0x38 i0x39 i0x40 i0x41 i0x42 i0x43 i0x44 i0x45 jx3 jx4 jx5 k rk dk u68 u69 u70 u71 u72 u73 u74 u75 u76 u77 u79 u80 u81 u82 u83 u84 u85 u86 u87 u88 u89 u90 u91 u92 u93 u94 u95 u96 u97 u98 u99 u100 u101 u102 u103 u104 u105 u106 u107 u108 u109 u110 u111 hkn HBD g jx6 hkg HI2 HI3 lx1 lx2 lx3 lx4 lx5 lx6 lx7 hcut w5 hR5 R5 c2 cz hlr HDL hb c' hc' hk' q0 q1 hbl y4 y5 h1 d1
        exact bxh1.out
  )
end Go.Proofs.Qxb6500293aGreatRR
