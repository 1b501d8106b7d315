import Derived.Test.Qxb6500293aGreatRRL4c
namespace Go.Proofs.Qxb6500293aGreatRR
open Go.RowKit
open Ieee (double)
set_option linter.unusedVariables false
set_option linter.unusedSimpArgs false

set_option maxRecDepth 16000 in
set_option maxHeartbeats 16000000 in
def pt_L4d : Sp1 (pt_L4c.a1) :=
  Sp1.mk _ (fun bxh1 => by
    intro own W m a nb tp rb bb cap M r a2 p2 a3 p3 a4 p4 a5 p5 dl hds9 kl hks9 cl hco9 HD ix1 w1 pb w2 c HPR ri np y0 ns y1 nup y2 r0 hb jx1 jx2 w3 b0 b1 b3 bz hpbl c2 cz hlr u50 u51 u52 u53 u54 u55 u56 u57 u58 u59 u60 u61 u62 u63 kx1 B r1 HP2 HRB HRC HRI wc u65 u66 u67 hcut
    have HR4 := hcut
    clear hcut HRB HRC b0 b1 b3 bz hpbl c2 cz hlr hb
    go_wp2_with fail
    have HR5 : Hid (Rp own W m a nb tp rb bb cap [(pb, prO np ns dl nup kl 0 cl 0)] { M with ds := M.ds } r1 wc ∧ descsF nup r1 M.ds = descsF nup r1 M.ds ∧ M.ds.length ≤ r1.i) := ⟨HR4.out, rfl, by rw [HD.out.1]; exact HRI.out.1⟩
    clear HR4
    go_loopg [6] nup (fun g kv wr => ∃ (k : Nat) (rk : Rd) (dk : List (Nat × Nat)), kv = .int .i64 (k : Int) ∧ k + g = nup ∧ Hid (Rp own W m a nb tp rb bb cap [(pb, prO np ns dl nup kl 0 cl 0)] { M with ds := dk } rk wr ∧ descsF g rk dk = descsF nup r1 M.ds ∧ dk.length ≤ rk.i))
    case atStart => exact ⟨0, r1, M.ds, rfl, by omega, HR5.out⟩
    case round =>
      rename_i jx1 jx2 jx3 jx4 jx5 jx6
      revert own W m a nb tp rb bb cap M r a2 p2 a3 p3 a4 p4 a5 p5 dl hds9 kl hks9 cl hco9 HD ix1 w1 pb w2 c HPR ri np y0 ns y1 nup y2 r0 w3 u50 u51 u52 u53 u54 u55 u56 u57 u58 u59 u60 u61 u62 u63 B r1 HP2 HRI wc u65 u66 u67 jx1 jx2 kx1 HR5 gk wr u6 u7 u68 u69 u70 u71 u72 u73 u74 u75 u76 u77 u78 u79 u80 u81 u82 u83 u84 u85 u86 u87 u88 u89 u90 u91 u92 u93 u94 u95 u96 u97 u98 u99 u100 u101 u102 u103 u104 u105 u106 u107 u108 u109 u110 u111 hrel jx3 jx4 jx5 jx6
      exact bxh1.out
  )
end Go.Proofs.Qxb6500293aGreatRR
