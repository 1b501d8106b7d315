import Derived.Test.Qxb6500293aGreatRRM6
import Derived.Test.Qxb6500293aGreatRRSf6
namespace Go.Proofs.Qxb6500293aGreatRR
open Go.RowKit
open Ieee (double)
set_option linter.unusedVariables false

end Go.Proofs.Qxb6500293aGreatRR
