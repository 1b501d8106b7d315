import Derived.Test.Qxb6500293aGreatRRL4
namespace Go.Proofs.Qxb6500293aGreatRR
open Go.RowKit
open Ieee (double)
set_option linter.unusedVariables false
set_option linter.unusedSimpArgs false

set_option maxRecDepth 16000 in
set_option maxHeartbeats 16000000 in
def pt_L4a : Sp1 (pt_L4.a1) :=
  Sp1.mk _ (fun bxh1 => by
    intro own W m a nb tp rb bb cap M r a2 p2 a3 p3 a4 p4 a5 p5 dl hds9 kl hks9 cl hco9 HD ix1 ix2 ix3 w1 pb ix4 ix5 w2 c2 cz hlr c hc hbl HPR b0 b1 b2 b3 b4 b5 b6 b7 bz hpbl ri HI np y0 q0 ns y1 q1 nup y2 q2 r0 R2 hb HLI HP2
    go_wp2_with fail
    go_region
    go_upto_region 4 with fail
    have R3 : Rp own W m a nb tp rb bb cap [(pb, prO np ns dl nup kl 0 cl 0)] M r0 (((w2.setCell ⟨pb, 0, none⟩ (.int .i64 (np : Int))).setCell ⟨pb, 1, none⟩ (.int .i64 (ns : Int))).setCell ⟨pb, 3, none⟩ (.int .i64 (nup : Int))).drew := by
      have hx := (R2.box (b := pb) (List.mem_singleton.2 rfl)).1
      have hx := box_set hx (k := 0) (by simp) (.int .i64 (np : Int))
      have hx := box_set hx (k := 1) (by simp) (.int .i64 (ns : Int))
      have hx := box_set hx (k := 3) (by simp) (.int .i64 (nup : Int))
      exact R2.put (List.mem_singleton.2 rfl) ((((Stp.refl pb w2).setCell (.inl rfl) _).setCell (.inl rfl) _).setCell (.inl rfl) _).drew hx (by simp) _ (fun p hp => .inl (List.mem_singleton.1 hp))
    clear R2 b0 b1 b2 b3 b4 b5 b6 b7 bz c2 cz hlr hbl q0 q1 q2 hpbl hc HI
    generalize (((w2.setCell ⟨pb, 0, none⟩ (.int .i64 (np : Int))).setCell ⟨pb, 1, none⟩ (.int .i64 (ns : Int))).setCell ⟨pb, 3, none⟩ (.int .i64 (nup : Int))).drew = w3 at *
    obtain ⟨b0, b1, b2, b3, b4, b5, b6, b7, bz⟩ := cells8 (R3.box (b := pb) (List.mem_singleton.2 rfl)).1
    have hpbl := (R3.box (b := pb) (List.mem_singleton.2 rfl)).2.2.1
    obtain ⟨c0, c1, c2, cz⟩ := R3.rd.c
    have hlr := R3.rd.lt
    have HR3 : Hid (Rp own W m a nb tp rb bb cap [(pb, prO np ns dl nup kl 0 cl 0)] M r0 w3) := R3
    clear R3 c0 c1 b2 b4 b5 b6 b7
    rename_i jx1 jx2 jx3 jx4
    revert own W m a nb tp rb bb cap M r a2 p2 a3 p3 a4 p4 a5 p5 dl hds9 kl hks9 cl hco9 HD ix1 w1 pb w2 c HPR ri np y0 ns y1 nup y2 r0 hb HLI HP2 jx1 jx2 jx3 jx4 w3 b0 b1 b3 bz hpbl c2 cz hlr HR3
    exact bxh1.out
  )
end Go.Proofs.Qxb6500293aGreatRR
