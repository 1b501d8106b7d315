/-
  THE PLAIN MATHEMATICS OF THE SOFT FLOAT (no Go in sight): rounding with a 'sticky' mark.
-/
import Derived.Test.Qxb6500293aGreatRRFl3
namespace Go.Proofs.Qxb6500293aGreatRR
namespace Fl
open Ieee

/-- A little below the unit of n: as one bit more. -/
theorem rne_sticky (n k δ d : Nat) (hd : 1 ≤ d) (h0 : 0 < δ) (h1 : δ < 2 ^ k) : rne (n * 2 ^ k + δ) (d + k) = rne (2 * n + 1) (d + 1) := by
  have hk : 0 < 2 ^ k := Nat.two_pow_pos k
  obtain ⟨c, rfl⟩ : ∃ c, d = c + 1 := ⟨d - 1, by omega⟩
  have hc : 0 < 2 ^ c := Nat.two_pow_pos c
  have e1 : 2 ^ (c + 1) = 2 * 2 ^ c := Nat.pow_succ'
  have e2 : 2 ^ (c + 1 + 1) = 2 * 2 ^ (c + 1) := Nat.pow_succ'
  have e3 : 2 ^ (c + 1 + k) = 2 ^ (c + 1) * 2 ^ k := Nat.pow_add ..
  -- quotient and remainder on both sides
  have hq := Nat.div_add_mod n (2 ^ (c + 1))
  have hr : n % 2 ^ (c + 1) < 2 ^ (c + 1) := Nat.mod_lt _ (by omega)
  generalize hQ : n / 2 ^ (c + 1) = q at *
  generalize hR : n % 2 ^ (c + 1) = r at *
  have hlt : r * 2 ^ k + δ < 2 ^ (c + 1) * 2 ^ k := by
    have : (r + 1) * 2 ^ k ≤ 2 ^ (c + 1) * 2 ^ k := Nat.mul_le_mul_right _ hr
    rw [Nat.add_mul] at this; omega
  have a1 : n * 2 ^ k + δ = 2 ^ (c + 1 + k) * q + (r * 2 ^ k + δ) := by
    rw [← hq, Nat.add_mul, e3, Nat.mul_assoc (2 ^ (c + 1)), Nat.mul_comm q, ← Nat.mul_assoc]; omega
  have q1 : (n * 2 ^ k + δ) / 2 ^ (c + 1 + k) = q := by
    rw [a1, Nat.mul_add_div (by rw [e3]; exact Nat.mul_pos (by omega) hk), Nat.div_eq_of_lt (by rw [e3]; exact hlt), Nat.add_zero]
  have r1 : (n * 2 ^ k + δ) % 2 ^ (c + 1 + k) = r * 2 ^ k + δ := by
    rw [a1, Nat.mul_add_mod, Nat.mod_eq_of_lt (by rw [e3]; exact hlt)]
  have a2 : 2 * n + 1 = 2 ^ (c + 1 + 1) * q + (2 * r + 1) := by
    rw [← hq, e2, Nat.mul_add, Nat.mul_assoc]; omega
  have q2 : (2 * n + 1) / 2 ^ (c + 1 + 1) = q := by
    rw [a2, Nat.mul_add_div (by omega), Nat.div_eq_of_lt (by omega), Nat.add_zero]
  have r2 : (2 * n + 1) % 2 ^ (c + 1 + 1) = 2 * r + 1 := by
    rw [a2, Nat.mul_add_mod, Nat.mod_eq_of_lt (by omega)]
  unfold rne
  rw [q1, r1, q2, r2, e3, e2, e1]
  have key : (2 * 2 ^ c * 2 ^ k < 2 * (r * 2 ^ k + δ)) ↔ 2 ^ c ≤ r := by
    constructor
    · intro h
      by_cases c1 : 2 ^ c ≤ r
      · exact c1
      · have : (r + 1) * 2 ^ k ≤ 2 ^ c * 2 ^ k := Nat.mul_le_mul_right _ (by omega)
        rw [Nat.add_mul] at this
        rw [Nat.mul_assoc] at h
        omega
    · intro h
      have : 2 ^ c * 2 ^ k ≤ r * 2 ^ k := Nat.mul_le_mul_right _ h
      rw [Nat.mul_assoc]
      omega
  have key2 : ¬ (2 * 2 ^ c * 2 ^ k = 2 * (r * 2 ^ k + δ)) := by
    intro h
    rw [Nat.mul_assoc] at h
    have h3 : 2 ^ c * 2 ^ k = r * 2 ^ k + δ := by omega
    have h4 : (2 ^ c * 2 ^ k) % 2 ^ k = 0 := Nat.mul_mod_left _ _
    rw [h3, Nat.add_comm, Nat.add_mul_mod_self_right, Nat.mod_eq_of_lt h1] at h4
    omega
  have key3 : (2 * (2 * 2 ^ c) < 2 * (2 * r + 1)) ↔ 2 ^ c ≤ r := by omega
  have key4 : ¬ (2 * (2 * 2 ^ c) = 2 * (2 * r + 1)) := by omega
  simp only [key, key2, key3, key4, false_and, or_false]

theorem log2_sticky {m k δ : Nat} (h0 : m ≠ 0) (hδ : δ < 2 ^ k) : (m * 2 ^ k + δ).log2 = m.log2 + k := by
  have hk : 0 < 2 ^ k := Nat.two_pow_pos k
  have h1 : m * 2 ^ k ≠ 0 := by
    have : 0 < m * 2 ^ k := Nat.mul_pos (by omega) hk
    omega
  rw [Nat.log2_eq_iff (by omega)]
  have a := Nat.log2_self_le h0
  have b : m < 2 ^ (m.log2 + 1) := Nat.lt_log2_self
  constructor
  · rw [Nat.pow_add]
    exact Nat.le_trans (Nat.mul_le_mul_right _ a) (Nat.le_add_right _ _)
  · rw [show m.log2 + k + 1 = (m.log2 + 1) + k from by omega, Nat.pow_add]
    have : (m + 1) * 2 ^ k ≤ 2 ^ (m.log2 + 1) * 2 ^ k := Nat.mul_le_mul_right _ b
    rw [Nat.add_mul] at this
    omega

/-- THE STICKY LAW: of a number of 54 bits or more, what lies below its unit only has to be told from nothing. -/
theorem nearest_sticky (s : Bool) (m k δ : Nat) (e : Int) (hm : 2 ^ 53 ≤ m) (h0 : 0 < δ) (h1 : δ < 2 ^ k) :
    double.nearest s (m * 2 ^ k + δ) (e - k) = double.nearest s (2 * m + 1) (e - 1) := by
  have hL := log2_ge hm
  have hm0 : m ≠ 0 := by omega
  have l1 := log2_sticky (k := k) hm0 h1
  have l2 : (2 * m + 1).log2 = m.log2 + 1 := by
    have := log2_sticky (m := m) (k := 1) (δ := 1) hm0 (by decide)
    rw [Nat.pow_one, Nat.mul_comm] at this
    exact this
  have hp : 0 < m * 2 ^ k := Nat.mul_pos (by omega) (Nat.two_pow_pos k)
  rw [nearest_eq _ _ _ (by omega), nearest_eq _ _ _ (by omega), l1, l2]
  rw [show e - (k : Int) + ((m.log2 + k : Nat) : Int) - 52 = e + m.log2 - 52 from by omega, show e - 1 + ((m.log2 + 1 : Nat) : Int) - 52 = e + m.log2 - 52 from by omega]
  generalize hl : max (e + (m.log2 : Int) - 52) (-1074) = last
  have hle : e + 1 ≤ last := by omega
  congr 3
  rw [show (e - (k : Int) - last).toNat = 0 from by omega, show (e - 1 - last).toNat = 0 from by omega, Nat.pow_zero, Nat.mul_one, Nat.mul_one]
  rw [show (last - (e - (k : Int))).toNat = (last - e).toNat + k from by omega, show (last - (e - 1)).toNat = (last - e).toNat + 1 from by omega]
  exact rne_sticky m k δ (last - e).toNat (by omega) h0 h1

/-- numm.pack: sign * (man * 2^ex + a little, if sticky), rounded once. -/
def packP (s : Bool) (man : Nat) (ex : Int) (st : Bool) : Nat := if st then double.nearest s (2 * man + 1) (ex - 1) else double.nearest s man ex

/-- An exact number P at place e, cut by k bits. -/
theorem pack_cut (s : Bool) (P k : Nat) (e : Int) (h : k = 0 ∨ 2 ^ 53 ≤ P / 2 ^ k) : packP s (P / 2 ^ k) (e + k) (P % 2 ^ k != 0) = double.nearest s P e := by
  have hdm := Nat.div_add_mod P (2 ^ k)
  have hlt : P % 2 ^ k < 2 ^ k := Nat.mod_lt _ (Nat.two_pow_pos k)
  unfold packP
  by_cases c : P % 2 ^ k = 0
  · rw [c] at hdm ⊢
    simp only [bne_self_eq_false, Bool.false_eq_true, if_false]
    rw [← nearest_shift]
    congr 1
    rw [Nat.mul_comm]; omega
  · have hb : (P % 2 ^ k != 0) = true := by simp [c]
    rw [if_pos hb]
    rcases h with h | h
    · subst h; simp [Nat.mod_one] at c
    · have := nearest_sticky s (P / 2 ^ k) k (P % 2 ^ k) (e + k) h (by omega) hlt
      rw [Nat.mul_comm (P / 2 ^ k), hdm, show e + (k : Int) - k = e from by omega] at this
      exact this.symm

end Fl
end Go.Proofs.Qxb6500293aGreatRR
