import Derived.Test.Qxb6500293aGreatRRM5
import Derived.Test.Qxb6500293aGreatRRSf5
namespace Go.Proofs.Qxb6500293aGreatRR
open Go.RowKit
open Ieee (double)
set_option linter.unusedVariables false

theorem andNot_low (m k : Nat) (hk : k ≤ 64) (hm : m < 18446744073709551616) (T : Nat) (hT : 2 ^ k = T) : bits .andNot .u64 (m : Int) ((T : Int) - 1) = ((m / T * T : Nat) : Int) := by
  have hT1 : 0 < T := by rw [← hT]; exact Nat.two_pow_pos k
  have hT2 : T ≤ 18446744073709551616 := by rw [← hT]; exact Nat.pow_le_pow_right (n := 2) (j := 64) (by omega) hk
  have := u64_andNot_nat m (T - 1) hm (by omega)
  rw [show ((T - 1 : Nat) : Int) = (T : Int) - 1 from by omega] at this
  rw [this]
  congr 1
  have e : 18446744073709551615 - (T - 1) = (2 ^ (64 - k) - 1) * 2 ^ k := by
    rw [Nat.sub_mul, ← Nat.pow_add, show 64 - k + k = 64 from by omega, hT]; omega
  rw [e, ← hT]
  apply Nat.eq_of_testBit_eq
  intro i
  rw [Nat.testBit_and, Nat.testBit_mul_two_pow, Nat.testBit_mul_two_pow, Nat.testBit_two_pow_sub_one, Nat.testBit_div_two_pow]
  by_cases c : k ≤ i
  · rw [show i - k + k = i from by omega]
    by_cases d : i < 64
    · simp [c]; intro; omega
    · have : m.testBit i = false := Nat.testBit_lt_two_pow (Nat.lt_of_lt_of_le hm (Nat.pow_le_pow_right (n := 2) (i := 64) (j := i) (by omega) (by omega)))
      simp [this]
  · simp [c]

end Go.Proofs.Qxb6500293aGreatRR
