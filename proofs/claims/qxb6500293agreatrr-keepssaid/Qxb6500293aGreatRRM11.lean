import Derived.Test.Qxb6500293aGreatRRM10
namespace Go.Proofs.Qxb6500293aGreatRR
open Go.RowKit
open Ieee (double Datum)
set_option linter.unusedVariables false

end Go.Proofs.Qxb6500293aGreatRR
