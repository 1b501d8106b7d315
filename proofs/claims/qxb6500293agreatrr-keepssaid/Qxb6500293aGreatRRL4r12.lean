import Derived.Test.Qxb6500293aGreatRRL4g2
namespace Go.Proofs.Qxb6500293aGreatRR
open Go.RowKit
open Ieee (double)
set_option linter.unusedVariables false
set_option linter.unusedSimpArgs false

set_option maxRecDepth 16000 in
set_option maxHeartbeats 16000000 in
def pt_L4r12 : Sp1 (pt_L4g2.a1) :=
  Sp1.mk _ (fun bxh1 => by
    intro own W m a nb tp rb bb cap M r a2 p2 a3 p3 a4 p4 a5 p5 dl hds9 kl hks9 cl hco9 HD ix1 w1 pb w2 c HPR ri np y0 ns y1 nup y2 r0 w3 u50 u51 u52 u53 u54 u55 u56 u57 u58 u59 u60 u61 u62 u63 B r1 HP2 HRI i0x1 u65 u66 u67 jx1 jx2 kx1 wr u7 i0x2 i0x3 i0x4 i0x5 i0x6 i0x7 i0x8 i0x9 i0x10 i0x11 i0x12 i0x13 i0x14 i0x15 i0x16 i0x17 i0x18 i0x19 i0x20 i0x21 i0x22 i0x23 i0x24 i0x25 i0x26 i0x27 i0x28 i0x29 i0x30 i0x31 i0x32 i0x33 i0x34 i0x35 i0x36 i0x37 i0x38 i0x39 i0x40 i0x41 i0x42 i0x43 i0x44 i0x45 jx3 jx4 jx5 k rk dk u68 u69 u70 u71 u72 u73 u74 u75 u76 u77 u79 u80 u81 u82 u83 u84 u85 u86 u87 u88 u89 u90 u91 u92 u93 u94 u95 u96 u97 u98 u99 u100 u101 u102 u103 u104 u105 u106 u107 u108 u109 u110 u111 hkn HBD g jx6 hkg HI2 HI3 lx1 lx2 lx3 lx4 lx5 lx6 lx7 hcut w5 hR5 R5 c2 cz hlr HDL hb c' hc' hk' q0 q1 hbl y4 y5 h1 d1
    have hgo := descs_go (g := g) (ds := dk) HBD.out (fun h => h.elim (fun h => by rw [hb] at h; cases h) h1)
    have R6 := R5.drewN 1
    obtain ⟨own6, hv6, zr6, zb6, hN6, -⟩ := R6.vm
    obtain ⟨ad, cp, ad', cp', w7, f00, happ0, f1, f2, hNf, hkq⟩ := hv6.dsApp (by show dk.length ≤ 100000; have := HDL.out.1; have := HI2.out; have := HI3.out; omega) (byte (takeP rk 2).2 0, byte (takeP rk 2).2 1)
    have R7 := hN6 _ _ (hNf 0).1
    have happ : (Builtin.append_ #[52, 52] 52 #[.slice ad dk.length cp, .slice (some ⟨w5.heap.size, 0, none⟩) 1 1]).run Tryz.prog ((w5.drew).alloc (.cells #[.int .u8 (byte (takeP rk 2).2 0 : Int), .int .u8 (byte (takeP rk 2).2 1 : Int)] 165)) = .ok (.slice ad' (dk.length + 1) cp') w7 := happ0
    have f0 : w5.cell? ⟨m, 3, none⟩ = some (.slice ad dk.length cp) := f00
    have f1 : w7.cell? ⟨m, 3, none⟩ = some (.slice ad dk.length cp) := f1
    have hml5 : m < w5.heap.size := hv6.tabR.2.2.2.2
    have hbm : ¬ bb = m := by
      rintro rfl
      obtain ⟨vals, L, H⟩ := hv6
      have := H.mc
      omega
    have hbq : w7.heap[bb]? = w5.heap[bb]? := by
      have h1 := hkq bb hbl (by omega) hbm
      rw [Below.heap_setCell _ _ _ _ hbm] at h1
      exact h1
    have x0 : w7.cell? ⟨bb, rk.i, none⟩ = some (.int .u8 (byte (takeP rk 2).2 0 : Int)) := (World.cell?_of_block (a := ⟨bb, rk.i, none⟩) hbq).trans q0
    have x1 : w7.cell? ⟨bb, rk.i + 1, none⟩ = some (.int .u8 (byte (takeP rk 2).2 1 : Int)) := (World.cell?_of_block (a := ⟨bb, rk.i + 1, none⟩) hbq).trans q1
    clear hbq hkq
    have HN : Hid (Rp own W m a nb tp rb bb cap [(pb, prO np ns dl nup kl 0 cl 0)] { M with ds := dk ++ [(byte (takeP rk 2).2 0, byte (takeP rk 2).2 1)] } (takeP rk 2).1 (w7.setCell ⟨m, 3, none⟩ (.slice ad' (dk.length + 1) cp')) ∧ descsF g (takeP rk 2).1 (dk ++ [(byte (takeP rk 2).2 0, byte (takeP rk 2).2 1)]) = descsF nup r1 M.ds ∧ (dk ++ [(byte (takeP rk 2).2 0, byte (takeP rk 2).2 1)]).length ≤ (takeP rk 2).1.i) := by
      refine ⟨R7, hgo.symm.trans HDL.out.2, ?_⟩
      rw [List.length_append, (take_ok hb HI2.out).2.1]
      show dk.length + 1 ≤ rk.i + 2
      have := HDL.out.1
      omega
    clear R5 R6 R7 hv6 hN6 hNf happ0 f00 hR5 hgo HP2 HD HPR HRI HDL HI2 HI3 HBD h1
    generalize byte (takeP rk 2).2 0 = d0 at *
    generalize byte (takeP rk 2).2 1 = d1' at *
    generalize (takeP rk 2).1 = rk2 at *
    generalize dk.length = dkl at *
    generalize rk.i = rki at *
    go_wp2_with fail
    rename_i i1x1
    revert own W m a nb tp rb bb cap M r a2 p2 a3 p3 a4 p4 a5 p5 dl hds9 kl hks9 cl hco9 ix1 w1 pb w2 c ri np y0 ns y1 nup y2 r0 w3 u50 u51 u52 u53 u54 u55 u56 u57 u58 u59 u60 u61 u62 u63 B r1 i0x1 u65 u66 u67 jx1 jx2 kx1 wr u7 i0x2 i0x3 i0x4 i0x5 i0x6 i0x7 i0x8 i0x9 i0x10 i0x11 i0x12 i0x13 i0x14 i0x15 i0x16 i0x17 i0x18 i0x19 i0x20 i0x21 i0x22 i0x23 i0x24 i0x25 i0x26 i0x27 i0x28 i0x29 i0x30 i0x31 i0x32 i0x33 i0x34 i0x35 i0x36 i0x37 i0x38 i0x39 i0x40 i0x41 i0x42 i0x43 i0x44 i0x45 jx3 jx4 jx5 k rk dk u68 u69 u70 u71 u72 u73 u74 u75 u76 u77 u79 u80 u81 u82 u83 u84 u85 u86 u87 u88 u89 u90 u91 u92 u93 u94 u95 u96 u97 u98 u99 u100 u101 u102 u103 u104 u105 u106 u107 u108 u109 u110 u111 hkn g jx6 hkg lx1 lx2 lx3 hcut w5 c2 cz hlr c' hc' hbl own6 zr6 zb6 ad cp ad' cp' w7 f2 hml5 hbm d0 y4 d1 d1' y5 rk2 hb dkl i1x1 f0 f1 happ HN rki q0 x0 q1 x1 hk'
    exact bxh1.out
  )
end Go.Proofs.Qxb6500293aGreatRR
