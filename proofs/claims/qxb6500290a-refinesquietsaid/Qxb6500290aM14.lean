import Derived.Test.Qxb6500290aM13
import Derived.Test.Qxb6500290aW3
namespace Go.Proofs.Qxb6500290a
open Go.RowKit
open Ieee (double Datum)
set_option linter.unusedVariables false

/-- The finite text as the model tells it: m odd, m * 2^e. -/
theorem fin_small {r k m : Nat} {e : Int} (hr : r < 2047 * 2 ^ 52) (h0 : 0 < r) (h1 : magM r % 2 ^ k = 0) (hm : m = magM r / 2 ^ k) (ho : m % 2 = 1) (he : e = magE r + k) (j : Nat) (hj : e = (j : Int)) (hs : m * 2 ^ j < 9007199254740992) :
    finP r = dec (m * 2 ^ j) := by
  have hp := magM_pos h0
  have hl := magM_lt r
  have hMe : magM r = m * 2 ^ k := by rw [hm]; exact (Nat.div_mul_cancel (Nat.dvd_of_mod_eq_zero h1)).symm
  have hW : Fl.Whole (magM r) (magE r) := by
    by_cases c : 0 ≤ magE r
    · exact .inl c
    · right
      rw [hMe, show k = j + (-magE r).toNat from by omega, Nat.pow_add, ← Nat.mul_assoc]; exact Nat.mul_mod_left _ _
  have hV : Fl.wholeOf (magM r) (magE r) = m * 2 ^ j := by
    unfold Fl.wholeOf
    by_cases c : 0 ≤ magE r
    · rw [show (-magE r).toNat = 0 from by omega, Nat.pow_zero, Nat.div_one, hMe, Nat.mul_assoc, ← Nat.pow_add]; congr 2; omega
    · rw [show (magE r).toNat = 0 from by omega, Nat.pow_zero, Nat.mul_one, hMe, show k = j + (-magE r).toNat from by omega, Nat.pow_add, ← Nat.mul_assoc, Nat.mul_div_cancel _ (Nat.two_pow_pos _)]
  have h53 : r < w53 := by
    rw [w53_eq]
    by_cases c : magE r ≤ 0
    · exact mag_neg_e c
    · exfalso
      have hbig : 2 ^ 52 ≤ magM r := by unfold magE at c; unfold magM; split at c <;> split <;> omega
      unfold Fl.wholeOf at hV
      rw [show (-magE r).toNat = 0 from by omega, Nat.pow_zero, Nat.div_one] at hV
      have : magM r * 2 ^ 1 ≤ magM r * 2 ^ (magE r).toNat := Nat.mul_le_mul_left _ (Nat.pow_le_pow_right (by omega) (by omega))
      omega
  unfold finP
  rw [if_pos ⟨h53, hW⟩, hV]
theorem fin_big {r k m : Nat} {e : Int} (hr : r < 2047 * 2 ^ 52) (h0 : 0 < r) (h1 : magM r % 2 ^ k = 0) (hm : m = magM r / 2 ^ k) (ho : m % 2 = 1) (he : e = magE r + k) (hs : ∀ j : Nat, e = (j : Int) → j < 53 → ¬ m * 2 ^ j < 9007199254740992) :
    finP r = dec m ++ [112] ++ itoaL e := by
  have hp := magM_pos h0
  have hl := magM_lt r
  have htz : tz (magM r) = k := tz_eq hp (by omega) h1 (by rw [← hm]; exact ho)
  have hMe : magM r = m * 2 ^ k := by rw [hm]; exact (Nat.div_mul_cancel (Nat.dvd_of_mod_eq_zero h1)).symm
  unfold finP
  rw [if_neg, htz, ← hm, ← he]
  rintro ⟨h53, hW⟩
  have hle := wholeOf_le h53
  have he0 : magE r ≤ 0 := by unfold w53 at h53; unfold magE; split <;> omega
  have hk : (-magE r).toNat ≤ k := by
    rcases hW with c | c
    · omega
    · rcases Nat.lt_or_ge k (-magE r).toNat with d | d
      · exfalso
        have hd : m * 2 ^ k % 2 ^ (k + 1) = 0 := by
          rw [← hMe]
          have : 2 ^ (k + 1) ∣ 2 ^ (-magE r).toNat := Nat.pow_dvd_pow 2 d
          exact Nat.mod_eq_zero_of_dvd (Nat.dvd_trans this (Nat.dvd_of_mod_eq_zero c))
        rw [Nat.pow_succ', Nat.mul_mod_mul_right, ho, Nat.one_mul] at hd
        have := Nat.two_pow_pos k
        omega
      · exact d
  obtain ⟨j, hj⟩ : ∃ j : Nat, e = (j : Int) := ⟨e.toNat, by omega⟩
  have hV : m * 2 ^ j ≤ magM r := by
    rw [hMe]; exact Nat.mul_le_mul_left _ (Nat.pow_le_pow_right (by omega) (by omega))
  have hj53 : j < 53 := by
    rcases Nat.lt_or_ge j 53 with c | c
    · exact c
    · have : 1 * 2 ^ 53 ≤ m * 2 ^ j := Nat.mul_le_mul (by omega) (Nat.pow_le_pow_right (by omega) c)
      omega
  exact hs j hj hj53 (by omega)
end Go.Proofs.Qxb6500290a
