/-
  THE MACHINE WALKED: Exec, Load, Check, Fresh together.
-/
import Derived.Test.Qxb6500293aGreatRRY51
import Derived.Test.Qxb6500293aGreatRRL6
import Derived.Test.Qxb6500293aGreatRRB5
import Derived.Test.Qxb6500293aGreatRRG2
import Derived.Test.Qxb6500293aGreatRRZ5
import Derived.Test.Qxb6500293aGreatRRA3
