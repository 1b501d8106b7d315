/-
  THE PLAIN MATHEMATICS OF THE SOFT FLOAT, MORE (no Go in sight): numm.pack, step by step.
-/
import Derived.Test.Qxb6500293aGreatRRSf
namespace Go.Proofs.Qxb6500293aGreatRR
namespace Fl
open Ieee

theorem pack_shift (s : Bool) (man z : Nat) (ex : Int) (st : Bool) (h : st = true → 2 ^ 53 ≤ man) : packP s (man * 2 ^ z) (ex - z) st = packP s man ex st := by
  unfold packP
  cases st
  · simp only [Bool.false_eq_true, if_false]
    rw [nearest_shift]; congr 1; omega
  · simp only [if_true]
    have := nearest_sticky s man (z + 1) 1 ex (h rfl) (by omega) (Nat.one_lt_two_pow (by omega))
    rw [← this, show ex - ((z + 1 : Nat) : Int) = ex - z - 1 from by omega, show man * 2 ^ (z + 1) = 2 * (man * 2 ^ z) from by rw [Nat.pow_succ']; exact Nat.mul_left_comm ..]

/-- M to be rounded by d bits, with the mark. -/
def up (M d : Nat) (st : Bool) : Nat := M / 2 ^ d + (if 2 ^ (d - 1) < M % 2 ^ d ∨ (M % 2 ^ d = 2 ^ (d - 1) ∧ (st = true ∨ M / 2 ^ d % 2 = 1)) then 1 else 0)

theorem up_eq (M d : Nat) (st : Bool) (hd : 1 ≤ d) : (if st then rne (2 * M + 1) (d + 1) else rne M d) = up M d st := by
  obtain ⟨c, rfl⟩ : ∃ c, d = c + 1 := ⟨d - 1, by omega⟩
  have hc : 0 < 2 ^ c := Nat.two_pow_pos c
  have e1 : 2 ^ (c + 1) = 2 * 2 ^ c := Nat.pow_succ'
  have e2 : 2 ^ (c + 1 + 1) = 2 * 2 ^ (c + 1) := Nat.pow_succ'
  have hq := Nat.div_add_mod M (2 ^ (c + 1))
  have hr : M % 2 ^ (c + 1) < 2 ^ (c + 1) := Nat.mod_lt _ (by omega)
  unfold up rne
  generalize hQ : M / 2 ^ (c + 1) = q at *
  generalize hR : M % 2 ^ (c + 1) = r at *
  cases st
  · simp only [Bool.false_eq_true, if_false, false_or, Nat.add_sub_cancel, e1]
    congr 1
    by_cases c1 : 2 ^ c < r ∨ r = 2 ^ c ∧ q % 2 = 1
    · rw [if_pos c1, if_pos (by omega)]
    · rw [if_neg c1, if_neg (by omega)]
  · have a2 : 2 * M + 1 = 2 ^ (c + 1 + 1) * q + (2 * r + 1) := by
      rw [← hq, e2, Nat.mul_add, Nat.mul_assoc]; omega
    have q2 : (2 * M + 1) / 2 ^ (c + 1 + 1) = q := by
      rw [a2, Nat.mul_add_div (by omega), Nat.div_eq_of_lt (by omega), Nat.add_zero]
    have r2 : (2 * M + 1) % 2 ^ (c + 1 + 1) = 2 * r + 1 := by
      rw [a2, Nat.mul_add_mod, Nat.mod_eq_of_lt (by omega)]
    simp only [if_true, true_or, and_true, q2, r2, Nat.add_sub_cancel]
    congr 1
    by_cases c1 : 2 ^ c < r ∨ r = 2 ^ c
    · rw [if_pos c1, if_pos (by omega)]
    · rw [if_neg c1, if_neg (by omega)]

theorem pack_eq (s : Bool) (M : Nat) (E : Int) (st : Bool) (h1 : 2 ^ 63 ≤ M) (h2 : M < 2 ^ 64) :
    packP s M E st = double.word s (min ((max (E + 11) (-1074) + 1074).toNat * 2 ^ 52 + (if st then rne (2 * M + 1) ((max (E + 11) (-1074) - E).toNat + 1) else rne M (max (E + 11) (-1074) - E).toNat)) (2047 * 2 ^ 52)) := by
  have hL : M.log2 = 63 := by rw [Nat.log2_eq_iff (by omega)]; omega
  have hL2 : (2 * M + 1).log2 = 64 := by rw [Nat.log2_eq_iff (by omega)]; omega
  unfold packP
  cases st
  · simp only [Bool.false_eq_true, if_false]
    rw [nearest_eq _ _ _ (by omega), hL, show E + ((63 : Nat) : Int) - 52 = E + 11 from by omega]
    rw [show (E - max (E + 11) (-1074)).toNat = 0 from by omega, Nat.pow_zero, Nat.mul_one]
  · simp only [if_true]
    rw [nearest_eq _ _ _ (by omega), hL2, show E - 1 + ((64 : Nat) : Int) - 52 = E + 11 from by omega]
    rw [show (E - 1 - max (E + 11) (-1074)).toNat = 0 from by omega, Nat.pow_zero, Nat.mul_one, show (max (E + 11) (-1074) - (E - 1)).toNat = (max (E + 11) (-1074) - E).toNat + 1 from by omega]

/-- Above the greatest. -/
theorem pack_inf (s : Bool) (M : Nat) (E : Int) (st : Bool) (h1 : 2 ^ 63 ≤ M) (h2 : M < 2 ^ 64) (h : 1023 < E + 63) : packP s M E st = double.word s (2047 * 2 ^ 52) := by
  rw [pack_eq s M E st h1 h2, up_eq _ _ _ (by omega)]
  rw [show max (E + 11) (-1074) = E + 11 from by omega]
  have : 2 ^ 52 ≤ up M (E + 11 - E).toNat st := by
    rw [show (E + 11 - E).toNat = 11 from by omega]
    unfold up
    exact Nat.le_trans (show 2 ^ 52 ≤ M / 2 ^ 11 by omega) (Nat.le_add_right _ _)
  rw [Nat.min_eq_right]
  omega
/-- A normal number. -/
theorem pack_normal (s : Bool) (M K : Nat) (E : Int) (st : Bool) (h1 : 2 ^ 63 ≤ M) (h2 : M < 2 ^ 64) (hK : (K : Int) = E + 63 + 1022) : packP s M E st = double.word s (min (K * 2 ^ 52 + up M 11 st) (2047 * 2 ^ 52)) := by
  rw [pack_eq s M E st h1 h2, up_eq _ _ _ (by omega)]
  rw [show max (E + 11) (-1074) = E + 11 from by omega, show (E + 11 - E).toNat = 11 from by omega, show (E + 11 + 1074).toNat = K from by omega]
/-- A subnormal number. -/
theorem pack_sub (s : Bool) (M D : Nat) (E : Int) (st : Bool) (h1 : 2 ^ 63 ≤ M) (h2 : M < 2 ^ 64) (hD : (D : Int) = -1074 - E) (h : E + 63 < -1022) : packP s M E st = double.word s (min (up M D st) (2047 * 2 ^ 52)) := by
  rw [pack_eq s M E st h1 h2, up_eq _ _ _ (by omega)]
  rw [show max (E + 11) (-1074) = -1074 from by omega, show (-1074 - E).toNat = D from by omega, show ((-1074 : Int) + 1074).toNat = 0 from rfl, Nat.zero_mul, Nat.zero_add]
theorem up_far (M D : Nat) (st : Bool) (h2 : M < 2 ^ 64) (hD : 64 < D) : up M D st = 0 := by
  have h : 2 ^ 64 ≤ 2 ^ (D - 1) := Nat.pow_le_pow_right (by omega) (by omega)
  have h3 : 2 ^ (D - 1) ≤ 2 ^ D := Nat.pow_le_pow_right (by omega) (by omega)
  unfold up
  rw [Nat.div_eq_of_lt (by omega), Nat.mod_eq_of_lt (by omega), if_neg (by omega)]
theorem up_lt (M d : Nat) (st : Bool) (h2 : M < 2 ^ 64) (hd : 11 ≤ d) : up M d st ≤ 2 ^ 53 := by
  have h3 : 2 ^ 11 ≤ 2 ^ d := Nat.pow_le_pow_right (by omega) hd
  have h4 : M / 2 ^ d ≤ M / 2 ^ 11 := Nat.div_le_div_left h3 (by decide)
  unfold up
  split <;> omega

end Fl
end Go.Proofs.Qxb6500293aGreatRR
