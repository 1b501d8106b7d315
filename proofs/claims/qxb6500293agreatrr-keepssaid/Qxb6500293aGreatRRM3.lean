import Derived.Test.Qxb6500293aGreatRRM2
import Derived.Test.Qxb6500293aGreatRRSf3
namespace Go.Proofs.Qxb6500293aGreatRR
open Go.RowKit
open Ieee (double)
set_option linter.unusedVariables false

theorem sgW_lt (s : Bool) : sgW s < 9223372036854775809 := by cases s <;> simp [sgW]

/-- The sum's word, by the greater place (m, i) and the lower one (n, j). -/
def SumIs (v : Nat) (s t : Bool) (m n D : Nat) (j : Int) : Prop :=
  v = if s = t then double.nearest s (m * 2 ^ D + n) j
      else if n < m * 2 ^ D then double.nearest s (m * 2 ^ D - n) j
      else if m * 2 ^ D < n then double.nearest t (n - m * 2 ^ D) j
      else 0
theorem sgW_ne {s t : Bool} (h : s ≠ t) : ((sgW s : Int) == (sgW t : Int)) = false := by
  have e1 : sgW true = 9223372036854775808 := rfl
  have e2 : sgW false = 0 := rfl
  rw [beq_eq_false_iff_ne]
  cases s <;> cases t
  · exact absurd rfl h
  · omega
  · omega
  · exact absurd rfl h
theorem packP_f (s : Bool) (m : Nat) (e : Int) : Fl.packP s m e false = double.nearest s m e := by
  unfold Fl.packP; exact if_neg (by decide)
theorem pow_dk {m D k : Nat} (hk : (D : Int) - 10 = (k : Int)) : m * 2 ^ D = m * 1024 * 2 ^ k := by
  rw [show D = 10 + k from by omega, Nat.pow_add, Nat.mul_assoc]


theorem and_sg (x : Nat) (hx : x < 18446744073709551616) : bits .and .u64 (x : Int) 9223372036854775808 = (sgW (neg x) : Int) := by
  rw [and_sign x hx]
  unfold neg sgW
  by_cases c : 2 ^ 63 ≤ x
  · rw [decide_eq_true c, show x / 2 ^ 63 = 1 from by omega]; rfl
  · rw [decide_eq_false c, show x / 2 ^ 63 = 0 from by omega]; rfl

end Go.Proofs.Qxb6500293aGreatRR
