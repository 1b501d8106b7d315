import Derived.Test.Qxb6500293aGreatRRL4a
namespace Go.Proofs.Qxb6500293aGreatRR
open Go.RowKit
open Ieee (double)
set_option linter.unusedVariables false
set_option linter.unusedSimpArgs false

set_option maxRecDepth 16000 in
set_option maxHeartbeats 16000000 in
def pt_L4b : Sp1 (pt_L4a.a1) :=
  Sp1.mk _ (fun bxh1 => by
    intro own W m a nb tp rb bb cap M r a2 p2 a3 p3 a4 p4 a5 p5 dl hds9 kl hks9 cl hco9 HD ix1 w1 pb w2 c HPR ri np y0 ns y1 nup y2 r0 hb HLI HP2 jx1 jx2 jx3 jx4 w3 b0 b1 b3 bz hpbl c2 cz hlr HR3
    go_cut [64] from 50 to 64 (fun s64 wx => s64 = .bool (badH np ns) ∧ wx = w3)
    case first =>
      by_cases n1 : 3 < np
      · have e : badH np ns = true := decide_eq_true (.inl n1)
        have d1 : decide ((3 : Int) < (np : Int)) = true := decide_eq_true (by omega)
        go_wp2_with fail
        go_meet
        case rel => exact ⟨by rw [e], rfl⟩
      have d1 : decide ((3 : Int) < (np : Int)) = false := decide_eq_false (by omega)
      by_cases n2 : ns < np
      · have e : badH np ns = true := decide_eq_true (.inr (.inl n2))
        have d2 : decide ((ns : Int) < (np : Int)) = true := decide_eq_true (by omega)
        go_wp2_with fail
        go_meet
        case rel => exact ⟨by rw [e], rfl⟩
      have d2 : decide ((ns : Int) < (np : Int)) = false := decide_eq_false (by omega)
      by_cases n3 : 12 < ns
      · have e : badH np ns = true := decide_eq_true (.inr (.inr n3))
        have d3 : decide ((12 : Int) < (ns : Int)) = true := decide_eq_true (by omega)
        go_wp2_with fail
        go_meet
        case rel => exact ⟨by rw [e], rfl⟩
      · have e : badH np ns = false := decide_eq_false (by omega)
        have d3 : decide ((12 : Int) < (ns : Int)) = false := decide_eq_false (by omega)
        go_wp2_with fail
        go_meet
        case rel => exact ⟨by rw [e], rfl⟩
    case rest =>
      obtain ⟨rfl, hcut⟩ := hcut
      have hcut := hcut.symm
      subst hcut
      generalize badH np ns = B at *
      have HRB : Hid (B = false → Rp own W m a nb tp rb bb cap [(pb, prO np ns dl nup kl 0 cl 0)] M (r0.or B) w3) := by
        rintro rfl
        have e : r0.or false = r0 := by unfold Rd.or; rw [Bool.or_false]
        rw [e]
        exact HR3.out
      have HRC : Hid (B = true → Rp own W m a nb tp rb bb cap [(pb, prO np ns dl nup kl 0 cl 0)] M (r0.or B) (w3.setCell ⟨rb, 2, none⟩ (.bool true))) := by
        rintro rfl
        have e : r0.or true = r0.spoil := by unfold Rd.or Rd.spoil; rw [Bool.or_true]
        rw [e]
        exact HR3.out.turn (Stp.setR _ _ _ _) HR3.out.rd.spoilt
      have HRI : Hid (dl ≤ (r0.or B).i ∧ kl ≤ (r0.or B).i ∧ cl ≤ (r0.or B).i ∧ (r0.or B).i ≤ (r0.or B).bs.length) := ⟨HLI.out.1, HLI.out.2.1, HLI.out.2.2, HR3.out.rd.i⟩
      clear HR3 HLI
      generalize r0.or B = r1 at *
      revert own W m a nb tp rb bb cap M r a2 p2 a3 p3 a4 p4 a5 p5 dl hds9 kl hks9 cl hco9 HD ix1 w1 pb w2 c HPR ri np y0 ns y1 nup y2 r0 hb jx1 jx2 jx3 jx4 w3 b0 b1 b3 bz hpbl c2 cz hlr u50 u51 u52 u53 u54 u55 u56 u57 u58 u59 u60 u61 u62 u63 hcut B r1 HP2 HRB HRC HRI
      exact bxh1.out
  )
end Go.Proofs.Qxb6500293aGreatRR
