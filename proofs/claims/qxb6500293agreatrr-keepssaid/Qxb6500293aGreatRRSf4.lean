/-
  THE PLAIN MATHEMATICS OF THE SOFT FLOAT, MORE (no Go in sight): the product and the quotient.
-/
import Derived.Test.Qxb6500293aGreatRRSf3
namespace Go.Proofs.Qxb6500293aGreatRR
open Ieee (double Datum signed)

def mulW (a b : Nat) : Nat := (double.mul a b).getD nanV
def divW (a b : Nat) : Nat := (double.div a b).getD nanV

theorem mulW_nan {a b : Nat} (h : 2047 * 2 ^ 52 < a % 2 ^ 63 ∨ 2047 * 2 ^ 52 < b % 2 ^ 63) : mulW a b = nanV := by
  unfold mulW Ieee.Format.mul
  rcases h with h | h
  · obtain ⟨s, t, e⟩ := read_nanx h
    rw [e]; rfl
  · obtain ⟨s, t, e⟩ := read_nanx h
    rw [e]; cases double.read a <;> rfl
theorem divW_nan {a b : Nat} (h : 2047 * 2 ^ 52 < a % 2 ^ 63 ∨ 2047 * 2 ^ 52 < b % 2 ^ 63) : divW a b = nanV := by
  unfold divW Ieee.Format.div
  rcases h with h | h
  · obtain ⟨s, t, e⟩ := read_nanx h
    rw [e]; rfl
  · obtain ⟨s, t, e⟩ := read_nanx h
    rw [e]; cases double.read a <;> rfl
/-- A word that is no NaN: infinite, zero, or neither. -/
theorem mulW_inf {a b : Nat} (ha : a < 2 ^ 64) (hb : b < 2 ^ 64) (h1 : a % 2 ^ 63 ≤ 2047 * 2 ^ 52) (h2 : b % 2 ^ 63 ≤ 2047 * 2 ^ 52) (hi : a % 2 ^ 63 = 2047 * 2 ^ 52 ∨ b % 2 ^ 63 = 2047 * 2 ^ 52) :
    mulW a b = if a % 2 ^ 63 = 0 ∨ b % 2 ^ 63 = 0 then nanV else double.word (neg a ^^ neg b) (2047 * 2 ^ 52) := by
  unfold mulW Ieee.Format.mul
  by_cases ia : a % 2 ^ 63 = 2047 * 2 ^ 52
  · rw [read_infx ha ia]
    by_cases ib : b % 2 ^ 63 = 2047 * 2 ^ 52
    · rw [read_infx hb ib, if_neg (by omega)]
      show double.word (neg a ^^ neg b) double.infRung = _
      rw [Fl.infRung_eq]
    · rw [read_fin hb (by omega)]
      by_cases zb : b % 2 ^ 63 = 0
      · rw [if_pos (.inr zb)]
        simp only [Datum.product, if_pos (magM_zero.2 zb)]; rfl
      · rw [if_neg (by omega)]
        have : magM (b % 2 ^ 63) ≠ 0 := by have := magM_pos (by omega : 0 < b % 2 ^ 63); omega
        simp only [Datum.product, if_neg this]
        show double.word (neg a ^^ neg b) double.infRung = _
        rw [Fl.infRung_eq]
  · have ib : b % 2 ^ 63 = 2047 * 2 ^ 52 := by omega
    rw [read_infx hb ib, read_fin ha (by omega)]
    by_cases za : a % 2 ^ 63 = 0
    · rw [if_pos (.inl za)]
      simp only [Datum.product, if_pos (magM_zero.2 za)]; rfl
    · rw [if_neg (by omega)]
      have : magM (a % 2 ^ 63) ≠ 0 := by have := magM_pos (by omega : 0 < a % 2 ^ 63); omega
      simp only [Datum.product, if_neg this]
      show double.word (neg b ^^ neg a) double.infRung = _
      rw [Fl.infRung_eq, Bool.xor_comm]
theorem mulW_fin {a b : Nat} (ha : a < 2 ^ 64) (hb : b < 2 ^ 64) (h1 : a % 2 ^ 63 < 2047 * 2 ^ 52) (h2 : b % 2 ^ 63 < 2047 * 2 ^ 52) :
    mulW a b = double.nearest (neg a ^^ neg b) (magM (a % 2 ^ 63) * magM (b % 2 ^ 63)) (magE (a % 2 ^ 63) + magE (b % 2 ^ 63)) := by
  unfold mulW Ieee.Format.mul
  rw [read_fin ha h1, read_fin hb h2]; rfl
theorem mulW_zero {a b : Nat} (ha : a < 2 ^ 64) (hb : b < 2 ^ 64) (h1 : a % 2 ^ 63 < 2047 * 2 ^ 52) (h2 : b % 2 ^ 63 < 2047 * 2 ^ 52) (hz : a % 2 ^ 63 = 0 ∨ b % 2 ^ 63 = 0) :
    mulW a b = double.word (neg a ^^ neg b) 0 := by
  rw [mulW_fin ha hb h1 h2]
  have : magM (a % 2 ^ 63) * magM (b % 2 ^ 63) = 0 := by
    rcases hz with h | h
    · rw [magM_zero.2 h, Nat.zero_mul]
    · rw [magM_zero.2 h, Nat.mul_zero]
  rw [this, Fl.nearest_zero]

theorem divW_inf_inf {a b : Nat} (ha : a < 2 ^ 64) (hb : b < 2 ^ 64) (h1 : a % 2 ^ 63 = 2047 * 2 ^ 52) (h2 : b % 2 ^ 63 = 2047 * 2 ^ 52) : divW a b = nanV := by
  unfold divW Ieee.Format.div
  rw [read_infx ha h1, read_infx hb h2]; rfl
theorem divW_inf_fin {a b : Nat} (ha : a < 2 ^ 64) (hb : b < 2 ^ 64) (h1 : a % 2 ^ 63 = 2047 * 2 ^ 52) (h2 : b % 2 ^ 63 < 2047 * 2 ^ 52) : divW a b = double.word (neg a ^^ neg b) (2047 * 2 ^ 52) := by
  unfold divW Ieee.Format.div
  rw [read_infx ha h1, read_fin hb h2]
  show double.word (neg a ^^ neg b) double.infRung = _
  rw [Fl.infRung_eq]
theorem divW_fin_inf {a b : Nat} (ha : a < 2 ^ 64) (hb : b < 2 ^ 64) (h1 : a % 2 ^ 63 < 2047 * 2 ^ 52) (h2 : b % 2 ^ 63 = 2047 * 2 ^ 52) : divW a b = double.word (neg a ^^ neg b) 0 := by
  unfold divW Ieee.Format.div
  rw [read_fin ha h1, read_infx hb h2]
  show double.nearest (neg a ^^ neg b) 0 0 = _
  rw [Fl.nearest_zero]
theorem divW_by_zero {a b : Nat} (ha : a < 2 ^ 64) (hb : b < 2 ^ 64) (h1 : a % 2 ^ 63 < 2047 * 2 ^ 52) (h2 : b % 2 ^ 63 = 0) : divW a b = if a % 2 ^ 63 = 0 then nanV else double.word (neg a ^^ neg b) (2047 * 2 ^ 52) := by
  unfold divW Ieee.Format.div
  rw [read_fin ha h1, read_fin hb (by omega)]
  by_cases za : a % 2 ^ 63 = 0
  · rw [if_pos za]
    simp only [Datum.quotient, if_pos (magM_zero.2 h2), if_pos (magM_zero.2 za)]; rfl
  · rw [if_neg za]
    have : magM (a % 2 ^ 63) ≠ 0 := by have := magM_pos (by omega : 0 < a % 2 ^ 63); omega
    simp only [Datum.quotient, if_pos (magM_zero.2 h2), if_neg this]
    show double.word (neg a ^^ neg b) double.infRung = _
    rw [Fl.infRung_eq]
/-- One digit more. -/
theorem nearest_twice (s : Bool) (m : Nat) (e : Int) : double.nearest s (2 * m) (e - 1) = double.nearest s m e := by
  have := Fl.nearest_shift s m 1 (e - 1)
  rw [Nat.pow_one, Nat.mul_comm] at this
  rw [this]; congr 1; omega
theorem packP_two (s : Bool) (q : Nat) (e : Int) (st : Bool) : Fl.packP s q e st = double.nearest s (2 * q + st.toNat) (e - 1) := by
  unfold Fl.packP
  cases st
  · rw [if_neg (by decide), Bool.toNat_false, Nat.add_zero, nearest_twice]
  · rw [if_pos rfl, Bool.toNat_true]
/-- How far a quotient is worked out is all one, from 54 digits on. -/
theorem quo_more (s : Bool) (m n K d : Nat) (e : Int) (hn : 0 < n) (hq : 2 ^ 53 ≤ m * 2 ^ K / n) :
    Fl.packP s (m * 2 ^ (K + d) / n) (e - (K + d : Nat)) (m * 2 ^ (K + d) % n != 0) = Fl.packP s (m * 2 ^ K / n) (e - K) (m * 2 ^ K % n != 0) := by
  have hdm := Nat.div_add_mod (m * 2 ^ K) n
  have hr : m * 2 ^ K % n < n := Nat.mod_lt _ hn
  have hd : 0 < 2 ^ d := Nat.two_pow_pos d
  generalize hQ : m * 2 ^ K / n = q at *
  generalize hR : m * 2 ^ K % n = r at *
  have e1 : m * 2 ^ (K + d) = r * 2 ^ d + q * 2 ^ d * n := by
    rw [Nat.pow_add, ← Nat.mul_assoc, ← hdm, Nat.add_mul, Nat.mul_comm n q, Nat.mul_right_comm]
    omega
  have e2 : m * 2 ^ (K + d) / n = q * 2 ^ d + r * 2 ^ d / n := by
    rw [e1, Nat.add_mul_div_right _ _ hn, Nat.add_comm]
  have e3 : m * 2 ^ (K + d) % n = r * 2 ^ d % n := by
    rw [e1, Nat.add_mul_mod_self_right]
  rw [e2, e3]
  have hδ : r * 2 ^ d / n < 2 ^ d := (Nat.div_lt_iff_lt_mul hn).2 (by rw [Nat.mul_comm (2 ^ d)]; exact Nat.mul_lt_mul_of_pos_right hr hd)
  have hdm2 := Nat.div_add_mod (r * 2 ^ d) n
  generalize hA : r * 2 ^ d / n = δ at *
  generalize hB : r * 2 ^ d % n = ρ at *
  rw [packP_two]
  have hcut := Fl.pack_cut s (2 * (q * 2 ^ d + δ) + (ρ != 0).toNat) (d + 1) (e - (K + d : Nat) - 1)
  have hρ : (ρ != 0).toNat ≤ 1 := by cases (ρ != 0) <;> decide
  have hp : 2 ^ (d + 1) = 2 * 2 ^ d := Nat.pow_succ'
  have f0 : 2 * (q * 2 ^ d + δ) + (ρ != 0).toNat = (2 * δ + (ρ != 0).toNat) + q * 2 ^ (d + 1) := by
    rw [hp, Nat.mul_left_comm q]; omega
  have f1 : (2 * (q * 2 ^ d + δ) + (ρ != 0).toNat) / 2 ^ (d + 1) = q := by
    rw [f0, Nat.add_mul_div_right _ _ (by omega), Nat.div_eq_of_lt (by omega), Nat.zero_add]
  have f2 : (2 * (q * 2 ^ d + δ) + (ρ != 0).toNat) % 2 ^ (d + 1) = 2 * δ + (ρ != 0).toNat := by
    rw [f0, Nat.add_mul_mod_self_right, Nat.mod_eq_of_lt (by omega)]
  have f3 : (2 * δ + (ρ != 0).toNat != 0) = (r != 0) := by
    by_cases r0 : r = 0
    · subst r0
      rw [Nat.zero_mul] at hdm2 hA hB
      rw [Nat.zero_div] at hA
      rw [Nat.zero_mod] at hB
      subst hA; subst hB; rfl
    · have : (r != 0) = true := by simp [r0]
      rw [this]
      by_cases ρ0 : ρ = 0
      · subst ρ0
        have : 0 < δ := by
          rcases Nat.eq_zero_or_pos δ with h | h
          · subst h
            have := Nat.mul_pos (Nat.pos_of_ne_zero r0) hd
            omega
          · exact h
        simp; omega
      · have : (ρ != 0) = true := by simp [ρ0]
        rw [this]; simp
  have := hcut (.inr (by rw [f1]; exact hq))
  rw [f1, f2, f3] at this
  rw [← this]; congr 1; omega
/-- The quotient's word, worked out to any place that is far enough. -/
theorem divW_fin {a b : Nat} (ha : a < 2 ^ 64) (hb : b < 2 ^ 64) (h1 : a % 2 ^ 63 < 2047 * 2 ^ 52) (h2 : b % 2 ^ 63 < 2047 * 2 ^ 52) (h3 : 0 < a % 2 ^ 63) (h4 : 0 < b % 2 ^ 63) (K : Nat)
    (hK : 2 ^ 53 ≤ magM (a % 2 ^ 63) * 2 ^ K / magM (b % 2 ^ 63)) :
    divW a b = Fl.packP (neg a ^^ neg b) (magM (a % 2 ^ 63) * 2 ^ K / magM (b % 2 ^ 63)) (magE (a % 2 ^ 63) - magE (b % 2 ^ 63) - K) (magM (a % 2 ^ 63) * 2 ^ K % magM (b % 2 ^ 63) != 0) := by
  have p1 := magM_pos h3
  have p2 := magM_pos h4
  have l1 := magM_lt (a % 2 ^ 63)
  unfold divW Ieee.Format.div
  rw [read_fin ha h1, read_fin hb h2]
  generalize magM (a % 2 ^ 63) = m at *
  generalize magM (b % 2 ^ 63) = n at *
  generalize magE (a % 2 ^ 63) = i
  generalize magE (b % 2 ^ 63) = j
  simp only [Datum.quotient, if_neg (show n ≠ 0 by omega), Option.map_some, Option.getD_some, Ieee.Format.write, Nat.shiftLeft_eq]
  generalize (neg a ^^ neg b) = s
  have hlm : m.log2 < 53 := Fl.log2_lt (by omega) l1
  have hfr : double.fractionBits = 52 := rfl
  rw [hfr]
  generalize hk : 52 + 2 + n.log2 - m.log2 = k
  have hq : 2 ^ 53 ≤ m * 2 ^ k / n := by
    rw [Nat.le_div_iff_mul_le p2]
    have a1 : 2 ^ m.log2 ≤ m := Nat.log2_self_le (by omega)
    have a2 : n < 2 ^ (n.log2 + 1) := Nat.lt_log2_self
    have a3 : 2 ^ 53 * n ≤ 2 ^ 53 * 2 ^ (n.log2 + 1) := Nat.mul_le_mul_left _ (Nat.le_of_lt a2)
    have a4 : 2 ^ m.log2 * 2 ^ k ≤ m * 2 ^ k := Nat.mul_le_mul_right _ a1
    rw [← Nat.pow_add] at a3 a4
    rw [show m.log2 + k = 53 + (n.log2 + 1) from by omega] at a4
    omega
  have hL : double.nearest s (2 * (m * 2 ^ k / n) + (m * 2 ^ k % n != 0).toNat) (i - j - k - 1) = Fl.packP s (m * 2 ^ k / n) (i - j - k) (m * 2 ^ k % n != 0) := (packP_two ..).symm
  refine hL.trans ?_
  rcases Nat.le_total k K with h | h
  · obtain ⟨d, rfl⟩ : ∃ d, K = k + d := ⟨K - k, by omega⟩
    exact (quo_more s m n k d (i - j) p2 hq).symm
  · obtain ⟨d, rfl⟩ : ∃ d, k = K + d := ⟨k - K, by omega⟩
    exact quo_more s m n K d (i - j) p2 hK
theorem divW_zero {a b : Nat} (ha : a < 2 ^ 64) (hb : b < 2 ^ 64) (h1 : a % 2 ^ 63 = 0) (h2 : b % 2 ^ 63 < 2047 * 2 ^ 52) (h4 : 0 < b % 2 ^ 63) : divW a b = double.word (neg a ^^ neg b) 0 := by
  have p2 := magM_pos h4
  unfold divW Ieee.Format.div
  rw [read_fin ha (by omega), read_fin hb h2]
  rw [magM_zero.2 h1]
  simp only [Datum.quotient, if_neg (show magM (b % 2 ^ 63) ≠ 0 by omega), Option.map_some, Option.getD_some, Ieee.Format.write, Nat.shiftLeft_eq, Nat.zero_mul, Nat.zero_div, Nat.zero_mod]
  exact Fl.nearest_zero _ _
end Go.Proofs.Qxb6500293aGreatRR
