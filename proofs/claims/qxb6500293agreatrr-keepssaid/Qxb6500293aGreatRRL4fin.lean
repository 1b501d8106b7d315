import Derived.Test.Qxb6500293aGreatRRL4r12b
import Derived.Test.Qxb6500293aGreatRRL4r2
import Derived.Test.Qxb6500293aGreatRRL4r26b
import Derived.Test.Qxb6500293aGreatRRL4r27b
namespace Go.Proofs.Qxb6500293aGreatRR
open Go.RowKit
open Ieee (double)
set_option linter.unusedVariables false
set_option linter.unusedSimpArgs false

theorem th_L4r12 : pt_L4g2.a1 := pt_L4r12.go ⟨th_L4r12b⟩
theorem th_L4g2 : pt_L4g.a1 := pt_L4g2.go ⟨th_L4r12⟩
theorem th_L4g : pt_L4f.a1 := pt_L4g.go ⟨th_L4g2⟩
theorem th_L4r26 : pt_L4n2.a1 := pt_L4r26.go ⟨th_L4r26b⟩
theorem th_L4n2 : pt_L4n.a1 := pt_L4n2.go ⟨th_L4r26⟩
theorem th_L4n : pt_L4m.a1 := pt_L4n.go ⟨th_L4n2⟩
theorem th_L4r27 : pt_L4o.a1 := pt_L4r27.go ⟨th_L4r27b⟩
theorem th_L4o : pt_L4m.a2 := pt_L4o.go ⟨th_L4r27⟩
theorem th_L4m : pt_L4l2.a1 := pt_L4m.go ⟨th_L4n⟩ ⟨th_L4o⟩
theorem th_L4l2 : pt_L4l.a1 := pt_L4l2.go ⟨th_L4m⟩
theorem th_L4l : pt_L4k3.a1 := pt_L4l.go ⟨th_L4l2⟩
theorem th_L4k3 : pt_L4k2.a1 := pt_L4k3.go ⟨th_L4l⟩
theorem th_L4k2 : pt_L4k.a1 := pt_L4k2.go ⟨th_L4k3⟩
theorem th_L4k : pt_L4j.a2 := pt_L4k.go ⟨th_L4k2⟩
theorem th_L4j : pt_L4i2.a1 := pt_L4j.go ⟨th_L4r2⟩ ⟨th_L4k⟩
theorem th_L4i2 : pt_L4i.a1 := pt_L4i2.go ⟨th_L4j⟩
theorem th_L4i : pt_L4h3.a1 := pt_L4i.go ⟨th_L4i2⟩
theorem th_L4h3 : pt_L4h2.a1 := pt_L4h3.go ⟨th_L4i⟩
theorem th_L4h2 : pt_L4h.a1 := pt_L4h2.go ⟨th_L4h3⟩
theorem th_L4h : pt_L4f.a2 := pt_L4h.go ⟨th_L4h2⟩
theorem th_L4f : pt_L4e2.a1 := pt_L4f.go ⟨th_L4g⟩ ⟨th_L4h⟩
theorem th_L4e2 : pt_L4e.a1 := pt_L4e2.go ⟨th_L4f⟩
theorem th_L4e : pt_L4d.a1 := pt_L4e.go ⟨th_L4e2⟩
theorem th_L4d : pt_L4c.a1 := pt_L4d.go ⟨th_L4e⟩
theorem th_L4c : pt_L4b.a1 := pt_L4c.go ⟨th_L4d⟩
theorem th_L4b : pt_L4a.a1 := pt_L4b.go ⟨th_L4c⟩
theorem th_L4a : pt_L4.a1 := pt_L4a.go ⟨th_L4b⟩
theorem proto_any {own : Nat → Nat} {W : World} {m a nb tp rb bb cap : Nat} {M : Mc} {r : Rd} (HV : Vm own W m a nb tp M) (h0 : own rb = 0) (h1 : own bb = 0) (HR : RdAt W rb bb cap r) (hds : M.ds.length ≤ r.i) (hks : M.ks.length ≤ r.i) (hco : M.co.length ≤ r.i) (hpr : M.pr.length ≤ 13) :
    Calls Tryz.prog 69 #[.pointer (some ⟨m, 0, none⟩), .pointer (some ⟨rb, 0, none⟩)] W fun e w' => e = .returned (.tuple #[]) ∧ Rp own W m a nb tp rb bb cap [] (protoP r M).2 (protoP r M).1 w' :=
  pt_L4.go ⟨th_L4a⟩ _ _ _ _ _ _ _ _ _ _ _ HV h0 h1 HR hds hks hco hpr
end Go.Proofs.Qxb6500293aGreatRR
