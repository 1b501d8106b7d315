import Derived.Test.Qxb6500293aGreatRRM4
namespace Go.Proofs.Qxb6500293aGreatRR
open Go.RowKit
open Ieee (double)
set_option linter.unusedVariables false

theorem sub_succ (i : Int) (z : Nat) : i - (z : Int) - 1 = i - ((z + 1 : Nat) : Int) := by omega
theorem bne_cast (r : Nat) : ((r : Int) != 0) = (r != 0) := by
  by_cases c : r = 0
  · subst c; rfl
  · rw [show (r != 0) = true from by simp [c]]; simp; omega
/-- The long division, t digits on. -/
structure Lng (A B t q r : Nat) : Prop where
  eq : A * 2 ^ t = 2 * q * B + r
  lt : r < 2 * B
  q : q < 2 ^ t
theorem Lng.start {A B : Nat} (h : A < 2 * B) : Lng A B 0 0 A := ⟨by simp, h, by simp⟩
theorem Lng.less {A B t q r : Nat} (h : Lng A B t q r) (c : r < B) : Lng A B (t + 1) (2 * q) (r * 2) := by
  refine ⟨?_, by omega, ?_⟩
  · rw [Nat.pow_succ, ← Nat.mul_assoc, h.eq, Nat.add_mul, Nat.mul_right_comm, Nat.mul_comm (2 * q) 2]
  · have := h.q; rw [Nat.pow_succ]; omega
theorem Lng.more {A B t q r : Nat} (h : Lng A B t q r) (c : B ≤ r) : Lng A B (t + 1) (2 * q + 1) ((r - B) * 2) := by
  refine ⟨?_, by have := h.lt; omega, ?_⟩
  · have e := h.eq
    rw [Nat.pow_succ, ← Nat.mul_assoc, e, Nat.add_mul, Nat.mul_right_comm, Nat.mul_comm (2 * q) 2, Nat.mul_add 2 (2 * q) 1, Nat.add_mul]
    omega
  · have := h.q; rw [Nat.pow_succ]; omega
theorem Lng.done {A B q r : Nat} (h : Lng A B 63 q r) (hB : 0 < B) : q = A * 2 ^ 62 / B ∧ (r != 0) = (A * 2 ^ 62 % B != 0) := by
  have e := h.eq
  have l := h.lt
  rw [Nat.mul_assoc, show (2 : Nat) ^ 63 = 2 ^ 62 * 2 from rfl, ← Nat.mul_assoc] at e
  have e2 : A * 2 ^ 62 = r / 2 + q * B := by
    generalize A * 2 ^ 62 = Y at *
    generalize q * B = X at *
    omega
  have hlt : r / 2 < B := by omega
  have h1 : A * 2 ^ 62 / B = q := by rw [e2, Nat.add_mul_div_right _ _ hB, Nat.div_eq_of_lt hlt, Nat.zero_add]
  have h2 : A * 2 ^ 62 % B = r / 2 := by rw [e2, Nat.add_mul_mod_self_right, Nat.mod_eq_of_lt hlt]
  rw [h1, h2]
  refine ⟨rfl, ?_⟩
  by_cases c : r = 0
  · subst c; rfl
  · rw [show (r != 0) = true from by simp [c], show (r / 2 != 0) = true from by simp; omega]

theorem or_one (q : Nat) (h : q < 9223372036854775808) : bits .or .u64 ((q : Int) * 2) 1 = ((2 * q + 1 : Nat) : Int) := by
  have := u64_or_nat (2 * q) 1 (by omega) (by omega)
  rw [show ((2 * q : Nat) : Int) = (q : Int) * 2 from by omega, nat_join1 _ _ (by omega) (by omega)] at this
  exact this

end Go.Proofs.Qxb6500293aGreatRR
