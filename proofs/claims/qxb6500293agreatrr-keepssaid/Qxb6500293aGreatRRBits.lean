/-
  BITS OF WORDS, as the walk spells them ('bits ..').
-/
import Derived.WalkKit
import Derived.Laws.BitsAllLaws
namespace Go.Proofs.Qxb6500293aGreatRR

theorem i64_and_nat (a b : Nat) (ha : a < 9223372036854775808) (hb : b < 9223372036854775808) : bits .and .i64 (a : Int) (b : Int) = ((a &&& b : Nat) : Int) := by
  have hx : a &&& b < 2 ^ 63 := Nat.and_lt_two_pow _ (by omega)
  show IntKind.i64.wrap ((BitVec.ofInt 64 (a : Int) &&& BitVec.ofInt 64 (b : Int)).toNat : Int) = _
  rw [BitVec.toNat_and, ofInt_u64 a (by omega), ofInt_u64 b (by omega), IntKind.wrap_i64]
  omega

theorem andNot_sign (x : Nat) (hx : x < 18446744073709551616) : bits .andNot .u64 (x : Int) 9223372036854775808 = ((x % 2 ^ 63 : Nat) : Int) := by
  rw [u64_andNot (x : Int) 9223372036854775808 (by omega) (by omega) (by omega) (by omega)]
  show ((x &&& 9223372036854775807 : Nat) : Int) = _
  rw [show (9223372036854775807 : Nat) = 2 ^ 63 - 1 from rfl, Nat.and_two_pow_sub_one_eq_mod]

theorem and_sign (x : Nat) (hx : x < 18446744073709551616) : bits .and .u64 (x : Int) 9223372036854775808 = ((x / 2 ^ 63 * 2 ^ 63 : Nat) : Int) := by
  rw [u64_and (x : Int) 9223372036854775808 (by omega) (by omega) (by omega) (by omega)]
  show ((x &&& 2 ^ 63 : Nat) : Int) = _
  rw [nat_bit, Nat.mod_eq_of_lt (show x / 2 ^ 63 < 2 by omega)]

/-- The exponent's bits struck, of a word without a sign. -/
theorem andNot_exp (x : Nat) (hx : x < 9223372036854775808) : bits .andNot .u64 (x : Int) 9218868437227405312 = ((x % 2 ^ 52 : Nat) : Int) := by
  rw [u64_andNot (x : Int) 9218868437227405312 (by omega) (by omega) (by omega) (by omega)]
  show ((x &&& 9227875636482146303 : Nat) : Int) = _
  rw [show (9227875636482146303 : Nat) = 2 ^ 63 ||| (2 ^ 52 - 1) from by decide, Nat.and_or_distrib_left, Nat.and_two_pow_sub_one_eq_mod, nat_bit, Nat.div_eq_of_lt (by omega)]
  simp

/-- A fraction under an exponent. -/
theorem or_exp (K fr : Nat) (hf : fr < 2 ^ 52) (hK : K < 2048) : bits .or .u64 (fr : Int) ((K : Int) * 4503599627370496) = ((K * 2 ^ 52 + fr : Nat) : Int) := by
  have := u64_or_nat fr (K * 2 ^ 52) (by omega) (by omega)
  rw [show ((K * 2 ^ 52 : Nat) : Int) = (K : Int) * 4503599627370496 from by omega] at this
  rw [this, Nat.or_comm, nat_join 52 _ _ (by omega) hf]

theorem and_2047 (x : Nat) (hx : x < 9223372036854775808) : bits .and .i64 (x : Int) 2047 = ((x % 2048 : Nat) : Int) := by
  have := i64_and_nat x 2047 hx (by omega)
  rw [nat_mask11] at this
  exact this
theorem uand_2047 (x : Nat) (hx : x < 18446744073709551616) : bits .and .u64 (x : Int) 2047 = ((x % 2048 : Nat) : Int) := by
  have := u64_and_nat x 2047 hx (by omega)
  rw [nat_mask11] at this
  exact this

theorem xor_sign (x : Nat) (hx : x < 2 ^ 64) : x ^^^ 2 ^ 63 = if x < 2 ^ 63 then x + 2 ^ 63 else x - 2 ^ 63 := by
  by_cases c : x < 2 ^ 63
  · rw [if_pos c]
    have h1 : x ^^^ 2 ^ 63 = 2 ^ 63 ||| x := by
      apply Nat.eq_of_testBit_eq
      intro i
      rw [Nat.testBit_xor, Nat.testBit_or, Nat.testBit_two_pow]
      by_cases hi : 63 = i
      · subst hi; simp [Nat.testBit_lt_two_pow c]
      · simp [hi]
    rw [h1, nat_join 63 _ _ (by decide) c]; omega
  · rw [if_neg c]
    obtain ⟨y, rfl⟩ : ∃ y, x = 2 ^ 63 + y := ⟨x - 2 ^ 63, by omega⟩
    have hy : y < 2 ^ 63 := by omega
    have h1 : 2 ^ 63 + y = 2 ^ 63 ^^^ y := by
      rw [← nat_join 63 (2 ^ 63) y (by decide) hy]
      apply Nat.eq_of_testBit_eq
      intro i
      rw [Nat.testBit_xor, Nat.testBit_or, Nat.testBit_two_pow]
      by_cases hi : 63 = i
      · subst hi; simp [Nat.testBit_lt_two_pow hy]
      · simp [hi]
    rw [h1, Nat.xor_comm (2 ^ 63) y, Nat.xor_assoc, Nat.xor_self, Nat.xor_zero, Nat.xor_comm, ← h1]
    omega
theorem u64_xor_sign (x : Nat) (hx : x < 18446744073709551616) : bits .xor .u64 (x : Int) 9223372036854775808 = ((x ^^^ 2 ^ 63 : Nat) : Int) := by
  rw [u64_xor (x : Int) 9223372036854775808 (by omega) (by omega) (by omega) (by omega), Int.toNat_natCast]
  rw [show (9223372036854775808 : Int).toNat = 2 ^ 63 from by decide]

/-- 'm &= ^(top << 52)': the fraction's bits. -/
theorem mant_bits (x : Nat) (hx : x < 18446744073709551616) : bits .and .u64 (x : Int) (bits .xor .u64 IntKind.u64.max ((x : Int) / 4503599627370496 * 4503599627370496)) = ((x % 2 ^ 52 : Nat) : Int) := by
  have e1 : bits .xor .u64 IntKind.u64.max ((x : Int) / 4503599627370496 * 4503599627370496) = ((18446744073709551615 ^^^ (x / 2 ^ 52 * 2 ^ 52) : Nat) : Int) := by
    have hm : IntKind.u64.max = 18446744073709551615 := by decide +kernel
    rw [hm, u64_xor _ _ (by omega) (by omega) (by omega) (by omega)]
    rw [show (18446744073709551615 : Int).toNat = 18446744073709551615 from by decide, show ((x : Int) / 4503599627370496 * 4503599627370496).toNat = x / 2 ^ 52 * 2 ^ 52 from by omega]
  have hlt : 18446744073709551615 ^^^ (x / 2 ^ 52 * 2 ^ 52) < 2 ^ 64 := Nat.xor_lt_two_pow (by decide) (by omega)
  rw [e1, u64_and_nat _ _ hx (by omega)]
  congr 1
  apply Nat.eq_of_testBit_eq
  intro i
  have e2 : (18446744073709551615 : Nat) = 2 ^ 64 - 1 := rfl
  rw [Nat.testBit_and, Nat.testBit_xor, Nat.testBit_mod_two_pow, e2, Nat.testBit_two_pow_sub_one, Nat.testBit_mul_two_pow, Nat.testBit_div_two_pow]
  by_cases h1 : i < 52
  · have h2 : i < 64 := by omega
    have h3 : ¬ 52 ≤ i := by omega
    simp [h1, h2, h3]
  · by_cases h2 : i < 64
    · have h3 : 52 ≤ i := by omega
      simp only [h1, h2, h3, decide_true, decide_false, Bool.true_and, Bool.false_and]
      rw [show i - 52 + 52 = i from by omega]
      cases x.testBit i <;> rfl
    · have : x.testBit i = false := Nat.testBit_lt_two_pow (Nat.lt_of_lt_of_le (show x < 2 ^ 64 from hx) (Nat.pow_le_pow_right (by omega) (by omega)))
      simp [this]
theorem or_hidden (fr : Nat) (hf : fr < 2 ^ 52) : bits .or .u64 (fr : Int) 4503599627370496 = ((2 ^ 52 + fr : Nat) : Int) := by
  have := or_exp 1 fr hf (by omega)
  rw [show ((1 : Nat) : Int) * 4503599627370496 = 4503599627370496 from rfl] at this
  rw [this]
theorem and_bit (m k q : Nat) (hm : m < 18446744073709551616) (hk : k < 64) (hq : q = 2 ^ k) : bits .and .u64 (m : Int) (q : Int) = ((m / 2 ^ k % 2 * 2 ^ k : Nat) : Int) := by
  subst hq
  have : 2 ^ k < 2 ^ 64 := Nat.pow_lt_pow_right (by omega) hk
  rw [u64_and_nat _ _ hm (by omega), nat_bit]

end Go.Proofs.Qxb6500293aGreatRR
