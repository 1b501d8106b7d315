import Derived.Test.Qxb6500293aGreatRRM9
namespace Go.Proofs.Qxb6500293aGreatRR
open Go.RowKit
open Ieee (double Datum)
set_option linter.unusedVariables false

/-- Cmp's answer by equality and the two 'less'. -/
def cmpB (op : Int) (eq l1 l2 : Bool) : Bool :=
  if op = 1 then eq else if op = 2 then !eq else if op = 3 then l1 else if op = 4 then eq || l1 else if op = 5 then l2 else if op = 6 then eq || l2 else false

end Go.Proofs.Qxb6500293aGreatRR
