import Derived.Test.Qxb6500293aGreatRRM1
import Derived.Test.Qxb6500293aGreatRRPl
namespace Go.Proofs.Qxb6500293aGreatRR
open Go.RowKit
open Ieee (double)

def nanB (x : Nat) : Bool := decide (2047 * 2 ^ 52 < x % 2 ^ 63)
def infB (x : Nat) : Bool := decide (x % 2 ^ 63 = 2047 * 2 ^ 52)
def zerB (x : Nat) : Bool := decide (x % 2 ^ 63 = 0)

theorem ret_bool {a b : Bool} (h : a = b) : Ending.returned (.bool a) = .returned (.bool b) := by rw [h]

/-- A word's rung, as the walk meets it. -/
theorem rung_of (x : Nat) (hx : x < 18446744073709551616) : ∃ r : Nat, r = x % 2 ^ 63 ∧ bits .andNot .u64 (x : Int) 9223372036854775808 = (r : Int) ∧ r < 9223372036854775808 :=
  ⟨_, rfl, andNot_sign x hx, by omega⟩

/-- The three tests on two words: each is 'or', the last 'and'. -/
theorem nan_dec {x r : Nat} (h : r = x % 2 ^ 63) : (nanB x = true ∧ decide (9218868437227405312 < (r : Int)) = true) ∨ (nanB x = false ∧ decide (9218868437227405312 < (r : Int)) = false) := by
  unfold nanB; rw [← h]
  by_cases c : 2047 * 2 ^ 52 < r
  · left; exact ⟨decide_eq_true c, decide_eq_true (by omega)⟩
  · right; exact ⟨decide_eq_false c, decide_eq_false (by omega)⟩
theorem inf_dec {x r : Nat} (h : r = x % 2 ^ 63) : (infB x = true ∧ ((r : Int) == 9218868437227405312) = true) ∨ (infB x = false ∧ ((r : Int) == 9218868437227405312) = false) := by
  unfold infB; rw [← h]
  by_cases c : r = 2047 * 2 ^ 52
  · left; exact ⟨decide_eq_true c, by rw [beq_iff_eq]; omega⟩
  · right; exact ⟨decide_eq_false c, by rw [beq_eq_false_iff_ne]; omega⟩
theorem zer_dec {x r : Nat} (h : r = x % 2 ^ 63) : (zerB x = true ∧ ((r : Int) == 0) = true) ∨ (zerB x = false ∧ ((r : Int) == 0) = false) := by
  unfold zerB; rw [← h]
  by_cases c : r = 0
  · left; exact ⟨decide_eq_true c, by rw [beq_iff_eq]; omega⟩
  · right; exact ⟨decide_eq_false c, by rw [beq_eq_false_iff_ne]; omega⟩

theorem ret_two {k1 k2 : IntKind} {a a' b b' : Int} (h1 : a = a') (h2 : b = b') : Ending.returned (.tuple #[.int k1 a, .int k2 b]) = .returned (.tuple #[.int k1 a', .int k2 b']) := by rw [h1, h2]
theorem and_mant (x : Nat) (hx : x < 18446744073709551616) : bits .and .u64 (x : Int) 4503599627370495 = ((x % 2 ^ 52 : Nat) : Int) := by
  have := u64_and_nat x 4503599627370495 hx (by omega)
  rw [show (4503599627370495 : Nat) = 2 ^ 52 - 1 from rfl, Nat.and_two_pow_sub_one_eq_mod] at this
  exact this

end Go.Proofs.Qxb6500293aGreatRR
