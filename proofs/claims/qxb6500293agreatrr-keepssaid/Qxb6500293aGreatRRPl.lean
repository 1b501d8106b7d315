/-
  THE PLAIN FUNCTIONS of package num's texts (no Go in sight): Format's text of a word.
-/
import Derived.Test.Qxb6500293aGreatRRFl3
import Derived.Test.Qxb6500293aGreatRRDec
namespace Go.Proofs.Qxb6500293aGreatRR
open Ieee (double)

/-- api.Itoa. -/
def itoaL (i : Int) : List UInt8 := if i < 0 then 45 :: dec i.natAbs else dec i.natAbs

/-- Magnitude and place of a finite rung. -/
def magM (r : Nat) : Nat := if r < 2 ^ 52 then r else 2 ^ 52 + r % 2 ^ 52
def magE (r : Nat) : Int := if r < 2 ^ 52 then -1074 else -1074 + (r / 2 ^ 52 - 1 : Nat)

theorem rd_mag (neg : Bool) (r : Nat) (h : r < 2047 * 2 ^ 52) : Fl.rd neg r = .number neg (magM r) (magE r) := by
  unfold Fl.rd magM magE
  by_cases c : r < 2 ^ 52
  · rw [if_pos c, if_pos c, if_pos c]
  · rw [if_neg c, if_neg c, if_neg c, if_pos h]
theorem magM_lt (r : Nat) : magM r < 2 ^ 53 := by unfold magM; split <;> omega
theorem magM_pos {r : Nat} (h : 0 < r) : 0 < magM r := by unfold magM; split <;> omega
theorem magM_zero {r : Nat} : magM r = 0 ↔ r = 0 := by unfold magM; split <;> omega
theorem magE_ge (r : Nat) : -1074 ≤ magE r := by unfold magE; split <;> omega
theorem magE_le {r : Nat} (h : r < 2047 * 2 ^ 52) : magE r ≤ 971 := by unfold magE; split <;> omega
theorem nearest_mag (neg : Bool) (r : Nat) (h : r < 2047 * 2 ^ 52) : double.nearest neg (magM r) (magE r) = double.word neg r := by
  obtain ⟨m, e, h1, h2, _⟩ := Fl.nearest_rd neg r h
  rw [rd_mag neg r h] at h1
  simp only [Ieee.Datum.number.injEq, true_and] at h1
  rw [h1.1, h1.2]; exact h2

/-- The trailing zeros of m (at most k). -/
def tzF : Nat → Nat → Nat
  | 0, _ => 0
  | k + 1, m => if m % 2 = 1 then 0 else tzF k (m / 2) + 1
def tz (m : Nat) : Nat := tzF 64 m

theorem tzF_spec (k m : Nat) (h0 : 0 < m) (h : m < 2 ^ k) : tzF k m < k ∧ m % 2 ^ tzF k m = 0 ∧ m / 2 ^ tzF k m % 2 = 1 := by
  induction k generalizing m with
  | zero => simp at h; omega
  | succ k ih =>
    unfold tzF
    by_cases c : m % 2 = 1
    · rw [if_pos c]; simp [Nat.mod_one, c]
    · rw [if_neg c]
      obtain ⟨a, b, d⟩ := ih (m / 2) (by omega) (by rw [Nat.pow_succ] at h; omega)
      generalize tzF k (m / 2) = t at *
      refine ⟨by omega, ?_, ?_⟩
      · rw [Nat.pow_succ, Nat.mul_comm, Nat.mod_mul, b]; omega
      · rw [Nat.pow_succ, Nat.mul_comm, ← Nat.div_div_eq_div_mul]; exact d
theorem tz_spec {m : Nat} (h0 : 0 < m) (h : m < 2 ^ 64) : tz m < 64 ∧ m % 2 ^ tz m = 0 ∧ m / 2 ^ tz m % 2 = 1 := tzF_spec 64 m h0 h
/-- The trailing zeros are told by what they do. -/
theorem tz_eq {m k : Nat} (h0 : 0 < m) (h : m < 2 ^ 64) (h1 : m % 2 ^ k = 0) (h2 : m / 2 ^ k % 2 = 1) : tz m = k := by
  obtain ⟨_, a, b⟩ := tz_spec h0 h
  have key : ∀ i j : Nat, m / 2 ^ i % 2 = 1 → m % 2 ^ j = 0 → ¬ i < j := by
    intro i j hi hj lt
    have e : m = 2 ^ i * (m / 2 ^ j * 2 ^ (j - i)) := by
      have := Nat.div_add_mod m (2 ^ j)
      rw [hj, Nat.add_zero] at this
      rw [← Nat.mul_assoc, Nat.mul_comm (2 ^ i), Nat.mul_assoc, ← Nat.pow_add, show i + (j - i) = j from by omega, Nat.mul_comm]
      exact this.symm
    have e2 : m / 2 ^ i = m / 2 ^ j * 2 ^ (j - i) := by
      rw [show m / 2 ^ i = 2 ^ i * (m / 2 ^ j * 2 ^ (j - i)) / 2 ^ i from by rw [← e]]
      exact Nat.mul_div_cancel_left _ (Nat.two_pow_pos _)
    rw [e2, show j - i = (j - i - 1) + 1 from by omega, Nat.pow_succ, ← Nat.mul_assoc, Nat.mul_mod_left] at hi
    omega
  have := key _ _ h2 a
  have := key _ _ b h1
  omega
theorem tz_lt {m j : Nat} (h0 : 0 < m) (h : m < 2 ^ 64) (hj : m < 2 ^ j) : tz m < j := by
  obtain ⟨_, a, b⟩ := tz_spec h0 h
  by_cases c : tz m < j
  · exact c
  · have : 2 ^ j ≤ 2 ^ tz m := Nat.pow_le_pow_right (by omega) (by omega)
    rw [Nat.mod_eq_of_lt (by omega)] at a
    omega

/-- The word of 2^53. -/
def w53 : Nat := 4845873199050653696


theorem read_mag {r : Nat} (h : r < 2047 * 2 ^ 52) : double.read r = .number false (magM r) (magE r) := by
  have := Fl.read_word false (r := r) (by omega)
  rw [Fl.word_false] at this
  rw [this, rd_mag false r h]
/-- The floor of a finite word without a sign. -/
theorem floor_mag {r : Nat} (h : r < 2047 * 2 ^ 52) : double.write ((double.read r).integral .down) = double.nearest false (Fl.wholeOf (magM r) (magE r)) 0 := Fl.floor_read (read_mag h)
theorem wholeOf_le {r : Nat} (h : r < w53) : Fl.wholeOf (magM r) (magE r) ≤ magM r := by
  have he : magE r ≤ 0 := by
    unfold w53 at h; unfold magE; split <;> omega
  unfold Fl.wholeOf
  rw [show (magE r).toNat = 0 from by omega, Nat.pow_zero, Nat.mul_one]
  exact Nat.div_le_self _ _
theorem floor_whole {r : Nat} (h : r < 2047 * 2 ^ 52) (hw : Fl.Whole (magM r) (magE r)) : double.write ((double.read r).integral .down) = r := by
  rw [floor_mag h, ← Fl.nearest_same (Fl.whole_same hw) false, nearest_mag false r h, Fl.word_false]
theorem floor_not_whole {r : Nat} (h : r < w53) (hw : ¬ Fl.Whole (magM r) (magE r)) : double.write ((double.read r).integral .down) ≠ r := by
  have hr : r < 2047 * 2 ^ 52 := by unfold w53 at h; omega
  rw [floor_mag hr]
  intro he
  have hle := wholeOf_le h
  have hlt := magM_lt r
  have heq : magE r < 0 := by
    by_cases c : 0 ≤ magE r
    · exact absurd (.inl c) hw
    · omega
  by_cases h0 : Fl.wholeOf (magM r) (magE r) = 0
  · rw [h0, Fl.nearest_zero, Fl.word_false] at he
    have : magM r = 0 := magM_zero.2 he.symm
    exact hw (.inr (by rw [this]; exact Nat.zero_mod _))
  · have hl : (Fl.wholeOf (magM r) (magE r)).log2 < 53 := Fl.log2_lt h0 (by omega)
    obtain ⟨n, f, h1, h2, _⟩ := Fl.read_nearest false _ 0 h0 (by omega) (by omega) (by omega)
    rw [he, read_mag hr] at h1
    simp only [Ieee.Datum.number.injEq, true_and] at h1
    rw [← h1.1, ← h1.2] at h2
    unfold Fl.Same at h2
    rw [show (magE r - min (magE r) 0).toNat = 0 from by omega, show (0 - min (magE r) 0).toNat = (-magE r).toNat from by omega, Nat.pow_zero, Nat.mul_one] at h2
    exact hw (.inr (by rw [h2]; exact Nat.mul_mod_left _ _))

theorem whole_zero : 0 < w53 ∧ Fl.Whole (magM 0) (magE 0) := ⟨by decide, .inr (by rw [magM_zero.2 rfl]; exact Nat.zero_mod _)⟩

/-- The text of a finite rung, without its sign. -/
def finP (r : Nat) : List UInt8 :=
  if r < w53 ∧ Fl.Whole (magM r) (magE r) then dec (Fl.wholeOf (magM r) (magE r))
  else dec (magM r / 2 ^ tz (magM r)) ++ [112] ++ itoaL (magE r + tz (magM r))
def sgP (x : Nat) : List UInt8 := if 2 ^ 63 ≤ x then [45] else []
/-- Format. -/
def fmtP (x : Nat) : List UInt8 :=
  if 2047 * 2 ^ 52 < x % 2 ^ 63 then [110, 97, 110]
  else if x % 2 ^ 63 = 2047 * 2 ^ 52 then sgP x ++ [105, 110, 102]
  else sgP x ++ finP (x % 2 ^ 63)

end Go.Proofs.Qxb6500293aGreatRR
