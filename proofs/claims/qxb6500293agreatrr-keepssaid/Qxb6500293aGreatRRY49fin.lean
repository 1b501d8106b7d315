import Derived.Test.Qxb6500293aGreatRRY49b
import Derived.Test.Qxb6500293aGreatRRY49e
import Derived.Test.Qxb6500293aGreatRRY49t26f1
import Derived.Test.Qxb6500293aGreatRRY49t26f2
import Derived.Test.Qxb6500293aGreatRRY49t26d
import Derived.Test.Qxb6500293aGreatRRY49t26e
import Derived.Test.Qxb6500293aGreatRRY49tf1
import Derived.Test.Qxb6500293aGreatRRY49tf2
import Derived.Test.Qxb6500293aGreatRRY49t21a
import Derived.Test.Qxb6500293aGreatRRY49t22a
import Derived.Test.Qxb6500293aGreatRRY49t23aj
import Derived.Test.Qxb6500293aGreatRRY49t23bj
import Derived.Test.Qxb6500293aGreatRRY49t27a
import Derived.Test.Qxb6500293aGreatRRY49tpla
namespace Go.Proofs.Qxb6500293aGreatRR
open Go.RowKit
open Ieee (double)
set_option linter.unusedVariables false
set_option linter.unusedSimpArgs false
theorem th_Y49t26f : pt_Y49t26.a1 := pt_Y49t26f.go ⟨th_Y49t26f1⟩ ⟨th_Y49t26f2⟩
theorem th_Y49t26c : pt_Y49t26b.a1 := pt_Y49t26c.go ⟨th_Y49t26d⟩ ⟨th_Y49t26e⟩
theorem th_Y49t26b : pt_Y49t26a.a1 := pt_Y49t26b.go ⟨th_Y49t26c⟩
theorem th_Y49t26a : pt_Y49t26.a2 := pt_Y49t26a.go ⟨th_Y49t26b⟩
theorem th_Y49t26 : pt_Y49f2.a1 := pt_Y49t26.go ⟨th_Y49t26f⟩ ⟨th_Y49t26a⟩
theorem th_Y49tfalse : pt_Y49g1.a1 := pt_Y49tfalse.go ⟨th_Y49tf1⟩ ⟨th_Y49tf2⟩
theorem th_Y49t21 : pt_Y49h3.a1 := pt_Y49t21.go ⟨th_Y49t21a⟩
theorem th_Y49t22 : pt_Y49h3.a2 := pt_Y49t22.go ⟨th_Y49t22a⟩
theorem th_Y49t23a3 : pt_Y49t23a2.a1 := pt_Y49t23a3.go ⟨th_Y49t23aj⟩
theorem th_Y49t23a2 : pt_Y49t23a1.a1 := pt_Y49t23a2.go ⟨th_Y49t23a3⟩
theorem th_Y49t23a1 : pt_Y49t23a.a1 := pt_Y49t23a1.go ⟨th_Y49t23a2⟩
theorem th_Y49t23a : pt_Y49h3.a3 := pt_Y49t23a.go ⟨th_Y49t23a1⟩
theorem th_Y49t23b3 : pt_Y49t23b2.a1 := pt_Y49t23b3.go ⟨th_Y49t23bj⟩
theorem th_Y49t23b2 : pt_Y49t23b1.a1 := pt_Y49t23b2.go ⟨th_Y49t23b3⟩
theorem th_Y49t23b1 : pt_Y49t23b.a1 := pt_Y49t23b1.go ⟨th_Y49t23b2⟩
theorem th_Y49t23b : pt_Y49h3.a4 := pt_Y49t23b.go ⟨th_Y49t23b1⟩
theorem th_Y49t27 : pt_Y49h3.a5 := pt_Y49t27.go ⟨th_Y49t27a⟩
theorem th_Y49tpl : pt_Y49h3.a6 := pt_Y49tpl.go ⟨th_Y49tpla⟩
theorem th_Y49h3 : pt_Y49h2.a1 := pt_Y49h3.go ⟨th_Y49t21⟩ ⟨th_Y49t22⟩ ⟨th_Y49t23a⟩ ⟨th_Y49t23b⟩ ⟨th_Y49t27⟩ ⟨th_Y49tpl⟩
theorem th_Y49h2 : pt_Y49h.a1 := pt_Y49h2.go ⟨th_Y49h3⟩
theorem th_Y49h : pt_Y49g1.a2 := pt_Y49h.go ⟨th_Y49h2⟩
theorem th_Y49g1 : pt_Y49g.a1 := pt_Y49g1.go ⟨th_Y49tfalse⟩ ⟨th_Y49h⟩
theorem th_Y49g : pt_Y49f2.a2 := pt_Y49g.go ⟨th_Y49g1⟩
theorem th_Y49f2 : pt_Y49f.a1 := pt_Y49f2.go ⟨th_Y49t26⟩ ⟨th_Y49g⟩
theorem th_Y49f : pt_Y49d3.a2 := pt_Y49f.go ⟨th_Y49f2⟩
theorem th_Y49d3 : pt_Y49d2.a1 := pt_Y49d3.go ⟨th_Y49e⟩ ⟨th_Y49f⟩
theorem th_Y49d2 : pt_Y49d.a1 := pt_Y49d2.go ⟨th_Y49d3⟩
theorem th_Y49d : pt_Y49c3.a1 := pt_Y49d.go ⟨th_Y49d2⟩
theorem th_Y49c3 : pt_Y49c2.a1 := pt_Y49c3.go ⟨th_Y49d⟩
theorem th_Y49c2 : pt_Y49c.a1 := pt_Y49c2.go ⟨th_Y49c3⟩
theorem th_Y49c : pt_Y49a.a2 := pt_Y49c.go ⟨th_Y49c2⟩
theorem th_Y49a : pt_Y49.a1 := pt_Y49a.go ⟨th_Y49b⟩ ⟨th_Y49c⟩
theorem loop_any {own : Nat → Nat} {W : World} {m a nb tp : Nat} {M : Mc} (HV : Vm own W m a nb tp M) {i : Nat} (hA : Alive M (some i)) (hi : i < M.th.length) :
    Calls Tryz.prog 77 #[.pointer (some ⟨m, 0, none⟩), i64 i, .pointer (some ⟨a, i * 5, none⟩)] W (OuEnd own W m a nb tp (loopP M i) evV) :=
  pt_Y49.go ⟨th_Y49a⟩ _ _ _ _ _ _ _ HV _ hA hi
end Go.Proofs.Qxb6500293aGreatRR
