import Derived.Test.Qxb6500293aGreatRRL4h
namespace Go.Proofs.Qxb6500293aGreatRR
open Go.RowKit
open Ieee (double)
set_option linter.unusedVariables false
set_option linter.unusedSimpArgs false

set_option maxRecDepth 16000 in
set_option maxHeartbeats 16000000 in
def pt_L4h2 : Sp1 (pt_L4h.a1) :=
  Sp1.mk _ (fun bxh1 => by
    intro own W m a nb tp rb bb cap M r a2 p2 a3 p3 a4 p4 a5 p5 dl hds9 kl hks9 cl hco9 HD ix1 w1 pb w2 c HPR ri np y0 ns y1 nup y2 r0 w3 u50 u51 u52 u53 u54 u55 u56 u57 u58 u59 u60 u61 u62 u63 B r1 i0x1 u65 u66 u67 jx1 kx1 gk wr u7 i0x2 i0x3 i0x4 i0x5 i0x6 i0x7 i0x8 i0x9 i0x10 i0x11 i0x12 i0x13 i0x14 i0x15 i0x16 i0x17 i0x18 i0x19 i0x20 i0x21 i0x22 i0x23 i0x24 i0x25 i0x26 i0x27 i0x28 i0x29 i0x30 i0x31 i0x32 i0x33 i0x34 i0x35 i0x36 i0x37 i0x38 i0x39 i0x40 i0x41 i0x42 i0x43 i0x44 i0x45 jx3 jx4 jx5 jx6 k rk dk hkg bd lx1 lx2 u68 u69 u70 u71 u72 u73 u74 u75 u76 u77 u79 u80 u81 u82 u83 u84 u85 u86 u87 u88 u89 u90 u91 u92 u93 u94 u95 u96 u97 u98 u99 u100 u101 u102 u103 u104 u105 u106 u107 u108 u109 u110 u111 HST yk HUQ i1x1 i1x2 i1x3 i1x4 hcut w6 R6 b5 bz hpbl
    obtain ⟨nk, hnk⟩ : ∃ nk, (u16P rk).2 = nk := ⟨_, rfl⟩
    obtain ⟨r3, hr3⟩ : ∃ r3, (u16P rk).1 = r3 := ⟨_, rfl⟩
    rw [hnk] at yk ⊢
    rw [hr3] at R6 HUQ
    have HNK : Hid ((u16P rk).1 = r3 ∧ (u16P rk).2 = nk) := ⟨hr3, hnk⟩
    clear hnk hr3
    have R7 : Rp own W m a nb tp rb bb cap [(pb, prO np ns dl nup kl nk cl 0)] { M with ds := dk } r3 (w6.setCell ⟨pb, 5, none⟩ (.int .i64 (nk : Int))) := by
      have hx := (R6.box (b := pb) (List.mem_singleton.2 rfl)).1
      have hx := box_set hx (k := 5) (by simp) (.int .i64 (nk : Int))
      exact R6.put (List.mem_singleton.2 rfl) ((Stp.refl pb w6).setCell (.inl rfl) _) hx (by simp) _ (fun p hp => .inl (List.mem_singleton.1 hp))
    have HR7 : Hid (Rp own W m a nb tp rb bb cap [(pb, prO np ns dl nup kl nk cl 0)] { M with ds := dk, ks := M.ks } r3 (w6.setCell ⟨pb, 5, none⟩ (.int .i64 (nk : Int))) ∧ constsF nk r3 M.ks = constsF nk r3 M.ks ∧ M.ks.length ≤ r3.i) := by
      refine ⟨R7, rfl, ?_⟩
      rw [HD.out.2.1]
      exact Nat.le_trans HST.out.2.2.1 HUQ.out.lo
    have HST2 : Hid (protoP r M = protoB ⟨np, ns, dl, nup, kl, 0, cl, 0⟩ rk { M with ds := dk } ∧ cl ≤ r3.i ∧ r3.i ≤ r3.bs.length) := ⟨HST.out.2.1, Nat.le_trans HST.out.2.2.2 HUQ.out.lo, R7.rd.i⟩
    clear R6 R7 HST HUQ
    go_wp2_with fail
    clear b5 bz hpbl
    generalize w6.setCell ⟨pb, 5, none⟩ (.int .i64 (nk : Int)) = w7 at *
    rename_i i1x1 i1x2
    revert own W m a nb tp rb bb cap M r a2 p2 a3 p3 a4 p4 a5 p5 dl hds9 kl hks9 cl hco9 HD ix1 w1 pb w2 c HPR ri np y0 ns y1 nup y2 r0 w3 u50 u51 u52 u53 u54 u55 u56 u57 u58 u59 u60 u61 u62 u63 B r1 i0x1 u65 u66 u67 jx1 kx1 gk wr u7 i0x2 i0x3 i0x4 i0x5 i0x6 i0x7 i0x8 i0x9 i0x10 i0x11 i0x12 i0x13 i0x14 i0x15 i0x16 i0x17 i0x18 i0x19 i0x20 i0x21 i0x22 i0x23 i0x24 i0x25 i0x26 i0x27 i0x28 i0x29 i0x30 i0x31 i0x32 i0x33 i0x34 i0x35 i0x36 i0x37 i0x38 i0x39 i0x40 i0x41 i0x42 i0x43 i0x44 i0x45 jx3 jx4 jx5 jx6 k rk dk hkg bd lx1 lx2 u68 u69 u70 u71 u72 u73 u74 u75 u76 u77 u79 u80 u81 u82 u83 u84 u85 u86 u87 u88 u89 u90 u91 u92 u93 u94 u95 u96 u97 u98 u99 u100 u101 u102 u103 u104 u105 u106 u107 u108 u109 u110 u111 hcut w6 nk yk r3 HNK HST2 i1x1 i1x2 w7 HR7
    exact bxh1.out
  )
end Go.Proofs.Qxb6500293aGreatRR
