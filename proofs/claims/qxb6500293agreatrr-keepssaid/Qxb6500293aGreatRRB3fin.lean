import Derived.Test.Qxb6500293aGreatRRB3w11r1
import Derived.Test.Qxb6500293aGreatRRB3w11r2
import Derived.Test.Qxb6500293aGreatRRB3w11r3
import Derived.Test.Qxb6500293aGreatRRB3w11r4
import Derived.Test.Qxb6500293aGreatRRB3w12r1
import Derived.Test.Qxb6500293aGreatRRB3w12r2
import Derived.Test.Qxb6500293aGreatRRB3w12r3
import Derived.Test.Qxb6500293aGreatRRB3w12r4
import Derived.Test.Qxb6500293aGreatRRB3w21r1
import Derived.Test.Qxb6500293aGreatRRB3w21r2
import Derived.Test.Qxb6500293aGreatRRB3w21r3
import Derived.Test.Qxb6500293aGreatRRB3w21r4
import Derived.Test.Qxb6500293aGreatRRB3w22r1
import Derived.Test.Qxb6500293aGreatRRB3w22r2
import Derived.Test.Qxb6500293aGreatRRB3w22r3
import Derived.Test.Qxb6500293aGreatRRB3w22r4
import Derived.Test.Qxb6500293aGreatRRB3z
namespace Go.Proofs.Qxb6500293aGreatRR
open Go.RowKit
open Ieee (double)
set_option linter.unusedVariables false
set_option linter.unusedSimpArgs false

theorem th_B3w11d : pt_B3w11c.a1 := pt_B3w11d.go ⟨th_B3w11r1⟩ ⟨th_B3w11r2⟩ ⟨th_B3w11r3⟩
theorem th_B3w11c : pt_B3w11b.a1 := pt_B3w11c.go ⟨th_B3w11d⟩ ⟨th_B3w11r4⟩
theorem th_B3w11b : pt_B3w11a.a1 := pt_B3w11b.go ⟨th_B3w11c⟩
theorem th_B3w11a : pt_B3w11.a1 := pt_B3w11a.go ⟨th_B3w11b⟩
theorem th_B3w11 : pt_B3e3.a1 := pt_B3w11.go ⟨th_B3w11a⟩
theorem th_B3w12d : pt_B3w12c.a1 := pt_B3w12d.go ⟨th_B3w12r1⟩ ⟨th_B3w12r2⟩ ⟨th_B3w12r3⟩
theorem th_B3w12c : pt_B3w12b.a1 := pt_B3w12c.go ⟨th_B3w12d⟩ ⟨th_B3w12r4⟩
theorem th_B3w12b : pt_B3w12a.a1 := pt_B3w12b.go ⟨th_B3w12c⟩
theorem th_B3w12a : pt_B3w12.a1 := pt_B3w12a.go ⟨th_B3w12b⟩
theorem th_B3w12 : pt_B3e3.a2 := pt_B3w12.go ⟨th_B3w12a⟩
theorem th_B3e3 : pt_B3e2.a1 := pt_B3e3.go ⟨th_B3w11⟩ ⟨th_B3w12⟩
theorem th_B3w21d : pt_B3w21c.a1 := pt_B3w21d.go ⟨th_B3w21r1⟩ ⟨th_B3w21r2⟩ ⟨th_B3w21r3⟩
theorem th_B3w21c : pt_B3w21b.a1 := pt_B3w21c.go ⟨th_B3w21d⟩ ⟨th_B3w21r4⟩
theorem th_B3w21b : pt_B3w21a.a1 := pt_B3w21b.go ⟨th_B3w21c⟩
theorem th_B3w21a : pt_B3w21.a1 := pt_B3w21a.go ⟨th_B3w21b⟩
theorem th_B3w21 : pt_B3e4.a1 := pt_B3w21.go ⟨th_B3w21a⟩
theorem th_B3w22d : pt_B3w22c.a1 := pt_B3w22d.go ⟨th_B3w22r1⟩ ⟨th_B3w22r2⟩ ⟨th_B3w22r3⟩
theorem th_B3w22c : pt_B3w22b.a1 := pt_B3w22c.go ⟨th_B3w22d⟩ ⟨th_B3w22r4⟩
theorem th_B3w22b : pt_B3w22a.a1 := pt_B3w22b.go ⟨th_B3w22c⟩
theorem th_B3w22a : pt_B3w22.a1 := pt_B3w22a.go ⟨th_B3w22b⟩
theorem th_B3w22 : pt_B3e4.a2 := pt_B3w22.go ⟨th_B3w22a⟩
theorem th_B3e4 : pt_B3e2.a2 := pt_B3e4.go ⟨th_B3w21⟩ ⟨th_B3w22⟩
theorem th_B3e2 : pt_B3e.a1 := pt_B3e2.go ⟨th_B3e3⟩ ⟨th_B3e4⟩
theorem th_B3e : pt_B3d.a1 := pt_B3e.go ⟨th_B3e2⟩
theorem th_B3d : pt_B3c.a1 := pt_B3d.go ⟨th_B3e⟩ ⟨th_B3z⟩
theorem th_B3c : pt_B3b2.a1 := pt_B3c.go ⟨th_B3d⟩
theorem th_B3b2 : pt_B3b.a1 := pt_B3b2.go ⟨th_B3c⟩
theorem th_B3b : pt_B3a.a1 := pt_B3b.go ⟨th_B3b2⟩
theorem th_B3a : pt_B3.a1 := pt_B3a.go ⟨th_B3b⟩
theorem checkThread_live {own : Nat → Nat} {W : World} {m a nb tp : Nat} {M : Mc} (HV : Vm own W m a nb tp M) (hA : Alive M none) {i : Nat} (hi : i < M.th.length) (hd : (M.t i).st = 2 ∨ (M.t i).st = 3) :
    Calls Tryz.prog 47 #[.pointer (some ⟨m, 0, none⟩), i64 i, .bool false, .int .i64 0] W fun e w' => e = .returned (.bool true) ∧ Below W.heap.size W w' :=
  pt_B3.go ⟨th_B3a⟩ _ _ _ _ _ _ _ HV hA _ hi hd
end Go.Proofs.Qxb6500293aGreatRR
