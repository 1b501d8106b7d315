/-
  THE PLAIN MATHEMATICS OF math.ldexp (no Go in sight): its ways, each the number m * 2^e rounded once.
-/
import Derived.Test.Qxb6500293aGreatRRFl2
namespace Go.Proofs.Qxb6500293aGreatRR
namespace Fl
open Ieee

/-- A whole number's word, by its exponent and its fraction. -/
theorem ld_parts (m : Nat) (h0 : m ≠ 0) (hm : m ≤ 2 ^ 53) : ∃ E fr : Nat, double.nearest false m 0 = (E + 1023) * 2 ^ 52 + fr ∧ fr < 2 ^ 52 ∧ E ≤ 53 ∧ E = m.log2 ∧ Same (2 ^ 52 + fr) ((E : Int) - 52) m 0 := by
  by_cases c : m = 2 ^ 53
  · subst c
    exact ⟨53, 0, by decide +kernel, by decide, by decide, by decide +kernel, by unfold Same; decide⟩
  · have hL : m.log2 < 53 := log2_lt h0 (by omega)
    have hle := Nat.log2_self_le h0
    have hlt : m < 2 ^ (m.log2 + 1) := Nat.lt_log2_self
    generalize hk : m * 2 ^ (52 - m.log2) = k
    have k1 : 2 ^ 52 ≤ k := by
      rw [← hk]
      calc 2 ^ 52 = 2 ^ m.log2 * 2 ^ (52 - m.log2) := by rw [← Nat.pow_add]; congr 1; omega
        _ ≤ _ := Nat.mul_le_mul_right _ hle
    have k2 : k < 2 ^ 53 := by
      rw [← hk]
      calc m * 2 ^ (52 - m.log2) < 2 ^ (m.log2 + 1) * 2 ^ (52 - m.log2) := (Nat.mul_lt_mul_right (Nat.two_pow_pos _)).2 hlt
        _ = 2 ^ 53 := by rw [← Nat.pow_add]; congr 1; omega
    refine ⟨m.log2, k - 2 ^ 52, ?_, by omega, by omega, rfl, ?_⟩
    · rw [nearest_eq _ _ _ h0, word_false]
      rw [show max ((0 : Int) + (m.log2 : Int) - 52) (-1074) = (m.log2 : Int) - 52 from by omega]
      rw [show ((m.log2 : Int) - 52 + 1074).toNat = m.log2 + 1022 from by omega, show ((m.log2 : Int) - 52 - 0).toNat = 0 from by omega, rne_zero, show ((0 : Int) - ((m.log2 : Int) - 52)).toNat = 52 - m.log2 from by omega, hk]
      rw [Nat.min_eq_left (by omega)]
      omega
    · rw [show 2 ^ 52 + (k - 2 ^ 52) = k from by omega]
      exact same_of hk.symm (by omega)

/-- What is below half of the least number rounds to zero. -/
theorem nearest_tiny (neg : Bool) (m : Nat) (e : Int) (h0 : m ≠ 0) (h : e + m.log2 < -1075) : double.nearest neg m e = double.word neg 0 := by
  rw [nearest_eq _ _ _ h0]
  rw [show max (e + (m.log2 : Int) - 52) (-1074) = -1074 from by omega]
  rw [show ((-1074 : Int) + 1074).toNat = 0 from rfl, show (e - -1074).toNat = 0 from by omega, Nat.pow_zero, Nat.mul_one, Nat.zero_mul, Nat.zero_add]
  have hlt : m < 2 ^ (m.log2 + 1) := Nat.lt_log2_self
  rw [rne_small, Nat.zero_min]
  calc 2 * m < 2 * 2 ^ (m.log2 + 1) := by omega
    _ = 2 ^ (m.log2 + 2) := by rw [Nat.pow_succ 2 (m.log2 + 1)]; omega
    _ ≤ _ := Nat.pow_le_pow_right (by omega) (by omega)

/-- A normal word, by its exponent and its fraction. -/
theorem read_normal (K fr : Nat) (h1 : 1 ≤ K) (h2 : K ≤ 2046) (hf : fr < 2 ^ 52) : double.read (K * 2 ^ 52 + fr) = .number false (2 ^ 52 + fr) ((K : Int) - 1075) := by
  have := read_word false (r := K * 2 ^ 52 + fr) (by omega)
  rw [word_false] at this
  rw [this]
  unfold rd
  rw [if_neg (by omega), if_pos (by omega), show (K * 2 ^ 52 + fr) % 2 ^ 52 = fr from by omega, show (K * 2 ^ 52 + fr) / 2 ^ 52 = K from by omega]
  rw [show (-1074 : Int) + ((K - 1 : Nat) : Int) = (K : Int) - 1075 from by omega]

theorem one_read : double.read 4607182418800017408 = .number false (2 ^ 52) (-52) := by decide +kernel
theorem tiny_read : double.read 4368491638549381120 = .number false (2 ^ 52) (-105) := by decide +kernel

/-- The way of the normal numbers. -/
theorem ld_normal {m E fr K : Nat} {e : Int} (hf : fr < 2 ^ 52) (hs : Same (2 ^ 52 + fr) ((E : Int) - 52) m 0) (hK : (K : Int) = e + E + 1023) (h1 : 1 ≤ K) (h2 : K ≤ 2046) :
    double.mul 4607182418800017408 (K * 2 ^ 52 + fr) = some (double.nearest false m e) := by
  rw [mul_num one_read (read_normal K fr h1 h2 hf), Bool.xor_false]
  have e1 := same_up (2 ^ 52 + fr) 52 (-52 + ((K : Int) - 1075))
  rw [Nat.mul_comm, nearest_same e1]
  have e2 := hs.shift e
  rw [show (0 : Int) + e = e from by omega] at e2
  rw [← nearest_same e2, show (-52 + ((K : Int) - 1075) + (52 : Nat)) = (E : Int) - 52 + e from by omega]

/-- The way of the subnormal numbers. -/
theorem ld_subnormal {m E fr K : Nat} {e : Int} (hf : fr < 2 ^ 52) (hs : Same (2 ^ 52 + fr) ((E : Int) - 52) m 0) (hK : (K : Int) = e + E + 53 + 1023) (h1 : 1 ≤ K) (h2 : K ≤ 2046) :
    double.mul 4368491638549381120 (K * 2 ^ 52 + fr) = some (double.nearest false m e) := by
  rw [mul_num tiny_read (read_normal K fr h1 h2 hf), Bool.xor_false]
  have e1 := same_up (2 ^ 52 + fr) 52 (-105 + ((K : Int) - 1075))
  rw [Nat.mul_comm, nearest_same e1]
  have e2 := hs.shift e
  rw [show (0 : Int) + e = e from by omega] at e2
  rw [← nearest_same e2, show (-105 + ((K : Int) - 1075) + (52 : Nat)) = (E : Int) - 52 + e from by omega]

theorem nearest_false_le (m : Nat) (e : Int) : double.nearest false m e ≤ 2047 * 2 ^ 52 := by
  by_cases h0 : m = 0
  · subst h0; rw [nearest_zero, word_false]; omega
  · rw [nearest_eq _ _ _ h0, word_false]; exact Nat.min_le_right _ _
theorem log2_le53 {m : Nat} (h : m ≤ 2 ^ 53) : m.log2 ≤ 53 := by
  by_cases h0 : m = 0
  · subst h0; decide
  · have := log2_lt h0 (show m < 2 ^ 54 by omega)
    omega
/-- A quotient of two whole numbers. -/
theorem div_some (A B : Nat) (hA : A ≤ 2 ^ 53) (hB : B ≤ 2 ^ 53) (hB0 : B ≠ 0) : ∃ r, double.div (double.nearest false A 0) (double.nearest false B 0) = some r ∧ r ≤ 2047 * 2 ^ 52 := by
  have lA := log2_le53 hA
  have lB := log2_le53 hB
  obtain ⟨n, f, h1, _⟩ := read_exact false A 0 hA (by omega) (fun _ => by omega)
  obtain ⟨k, g, h2, _, hk, _⟩ := read_nearest false B 0 hB0 hB (by omega) (by omega)
  unfold Format.div
  rw [h1, h2]
  simp only [Datum.quotient, if_neg hk, Option.map_some, Format.write]
  exact ⟨_, rfl, nearest_false_le _ _⟩

end Fl
end Go.Proofs.Qxb6500293aGreatRR
