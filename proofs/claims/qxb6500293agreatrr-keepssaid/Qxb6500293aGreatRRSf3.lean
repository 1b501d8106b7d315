/-
  THE PLAIN MATHEMATICS OF THE SOFT FLOAT, MORE (no Go in sight): the sum.
-/
import Derived.Test.Qxb6500293aGreatRRSf2
import Derived.Test.Qxb6500293aGreatRRPl
namespace Go.Proofs.Qxb6500293aGreatRR
open Ieee (double Datum signed)

/-- THE NaN. -/
def nanV : Nat := 9221120237041090561
/-- The sign of a word. -/
def neg (x : Nat) : Bool := decide (2 ^ 63 ≤ x)
theorem read_fin {x : Nat} (hx : x < 2 ^ 64) (hf : x % 2 ^ 63 < 2047 * 2 ^ 52) : double.read x = .number (neg x) (magM (x % 2 ^ 63)) (magE (x % 2 ^ 63)) := by
  rw [Fl.read_eq]
  have : (x / 2 ^ 63 % 2 == 1) = neg x := by
    unfold neg
    by_cases c : 2 ^ 63 ≤ x
    · rw [decide_eq_true c, show x / 2 ^ 63 = 1 from by omega]; rfl
    · rw [decide_eq_false c, show x / 2 ^ 63 = 0 from by omega]; rfl
  rw [this, rd_mag _ _ hf]
theorem read_infx {x : Nat} (hx : x < 2 ^ 64) (hf : x % 2 ^ 63 = 2047 * 2 ^ 52) : double.read x = .infinity (neg x) := by
  rw [Fl.read_eq]
  have : (x / 2 ^ 63 % 2 == 1) = neg x := by
    unfold neg
    by_cases c : 2 ^ 63 ≤ x
    · rw [decide_eq_true c, show x / 2 ^ 63 = 1 from by omega]; rfl
    · rw [decide_eq_false c, show x / 2 ^ 63 = 0 from by omega]; rfl
  rw [this, hf, Fl.rd_inf]
theorem read_nanx {x : Nat} (hf : 2047 * 2 ^ 52 < x % 2 ^ 63) : ∃ s t, double.read x = .nan s t := by
  rw [Fl.read_eq, Fl.rd_nan _ hf]; exact ⟨_, _, rfl⟩
theorem word_neg {x : Nat} (hx : x < 2 ^ 64) : x = double.word (neg x) (x % 2 ^ 63) := by
  unfold neg
  by_cases c : 2 ^ 63 ≤ x
  · rw [decide_eq_true c, Fl.word_true]; omega
  · rw [decide_eq_false c, Fl.word_false]; omega
theorem nearest_self {x : Nat} (hx : x < 2 ^ 64) (hf : x % 2 ^ 63 < 2047 * 2 ^ 52) : double.nearest (neg x) (magM (x % 2 ^ 63)) (magE (x % 2 ^ 63)) = x := by
  rw [nearest_mag _ _ hf]; exact (word_neg hx).symm

theorem sum_comm (s t : Bool) (m n : Nat) (i j : Int) : Datum.sum (.number s m i) (.number t n j) = Datum.sum (.number t n j) (.number s m i) := by
  simp only [Datum.sum, Int.min_comm i j]
  rw [Int.add_comm, Bool.and_comm]

/-- The sum of two numbers, the second at the lower place. -/
theorem sum_core (s t : Bool) (m n : Nat) (i j : Int) (hij : j ≤ i) :
    (Datum.sum (.number s m i) (.number t n j)).map double.write = some (
      if s = t then double.nearest s (m * 2 ^ (i - j).toNat + n) j
      else if n < m * 2 ^ (i - j).toNat then double.nearest s (m * 2 ^ (i - j).toNat - n) j
      else if m * 2 ^ (i - j).toNat < n then double.nearest t (n - m * 2 ^ (i - j).toNat) j
      else 0) := by
  simp only [Datum.sum, show min i j = j from by omega, Int.sub_self, Int.toNat_zero, Fl.signed_V, Nat.pow_zero, Nat.mul_one]
  generalize m * 2 ^ (i - j).toNat = A
  simp only [Option.map_some, Option.some.injEq, Ieee.Format.write]
  cases s <;> cases t <;> simp only [Fl.sg, if_true, if_false, Bool.false_eq_true, Bool.true_eq_false, Bool.and_self, Bool.and_false, Bool.and_true]
  · -- + +
    rw [show ((A : Int) + (n : Int)).natAbs = A + n from by omega]
    congr 1
    split
    · rfl
    · exact decide_eq_false (by omega)
  · -- + -
    by_cases c1 : n < A
    · rw [if_pos c1, if_neg (by omega), decide_eq_false (by omega), show ((A : Int) + -(n : Int)).natAbs = A - n from by omega]
    · rw [if_neg c1]
      by_cases c2 : A < n
      · rw [if_pos c2, if_neg (by omega), decide_eq_true (by omega), show ((A : Int) + -(n : Int)).natAbs = n - A from by omega]
      · rw [if_neg c2, if_pos (by omega), show ((A : Int) + -(n : Int)).natAbs = 0 from by omega, Fl.nearest_zero, Fl.word_false]
  · -- - +
    by_cases c1 : n < A
    · rw [if_pos c1, if_neg (by omega), decide_eq_true (by omega), show (-(A : Int) + (n : Int)).natAbs = A - n from by omega]
    · rw [if_neg c1]
      by_cases c2 : A < n
      · rw [if_pos c2, if_neg (by omega), decide_eq_false (by omega), show (-(A : Int) + (n : Int)).natAbs = n - A from by omega]
      · rw [if_neg c2, if_pos (by omega), show (-(A : Int) + (n : Int)).natAbs = 0 from by omega, Fl.nearest_zero, Fl.word_false]
  · -- - -
    rw [show (-(A : Int) + -(n : Int)).natAbs = A + n from by omega]
    congr 1
    split
    · rfl
    · exact decide_eq_true (by omega)

/-- num.Arith(OpAdd): the word. -/
def addW (a b : Nat) : Nat := (double.add a b).getD nanV

theorem addW_nan {a b : Nat} (h : 2047 * 2 ^ 52 < a % 2 ^ 63 ∨ 2047 * 2 ^ 52 < b % 2 ^ 63) : addW a b = nanV := by
  unfold addW Ieee.Format.add
  rcases h with h | h
  · obtain ⟨s, t, e⟩ := read_nanx h
    rw [e]; rfl
  · obtain ⟨s, t, e⟩ := read_nanx h
    rw [e]
    cases double.read a <;> rfl
theorem addW_inf_inf {a b : Nat} (ha : a < 2 ^ 64) (hb : b < 2 ^ 64) (h1 : a % 2 ^ 63 = 2047 * 2 ^ 52) (h2 : b % 2 ^ 63 = 2047 * 2 ^ 52) : addW a b = if a = b then a else nanV := by
  unfold addW Ieee.Format.add
  rw [read_infx ha h1, read_infx hb h2]
  have hiff : neg a = neg b ↔ a = b := by
    constructor
    · intro h; rw [word_neg ha, word_neg hb, h, h1, h2]
    · rintro rfl; rfl
  simp only [Datum.sum]
  by_cases c : a = b
  · rw [if_pos c, if_pos (hiff.2 c)]
    show double.word (neg a) double.infRung = a
    rw [Fl.infRung_eq, ← h1]; exact (word_neg ha).symm
  · rw [if_neg c, if_neg (fun h => c (hiff.1 h))]; rfl
theorem addW_inf_left {a b : Nat} (ha : a < 2 ^ 64) (hb : b < 2 ^ 64) (h1 : a % 2 ^ 63 = 2047 * 2 ^ 52) (h2 : b % 2 ^ 63 < 2047 * 2 ^ 52) : addW a b = a := by
  unfold addW Ieee.Format.add
  rw [read_infx ha h1, read_fin hb h2]
  show double.word (neg a) double.infRung = a
  rw [Fl.infRung_eq, ← h1]; exact (word_neg ha).symm
theorem addW_inf_right {a b : Nat} (ha : a < 2 ^ 64) (hb : b < 2 ^ 64) (h1 : a % 2 ^ 63 < 2047 * 2 ^ 52) (h2 : b % 2 ^ 63 = 2047 * 2 ^ 52) : addW a b = b := by
  unfold addW Ieee.Format.add
  rw [read_infx hb h2, read_fin ha h1]
  show double.word (neg b) double.infRung = b
  rw [Fl.infRung_eq, ← h2]; exact (word_neg hb).symm
theorem addW_fin {a b : Nat} (ha : a < 2 ^ 64) (hb : b < 2 ^ 64) (h1 : a % 2 ^ 63 < 2047 * 2 ^ 52) (h2 : b % 2 ^ 63 < 2047 * 2 ^ 52) :
    addW a b = ((Datum.sum (.number (neg a) (magM (a % 2 ^ 63)) (magE (a % 2 ^ 63))) (.number (neg b) (magM (b % 2 ^ 63)) (magE (b % 2 ^ 63)))).map double.write).getD nanV := by
  unfold addW Ieee.Format.add
  rw [read_fin ha h1, read_fin hb h2]
theorem addW_zero_zero {a b : Nat} (ha : a < 2 ^ 64) (hb : b < 2 ^ 64) (h1 : a % 2 ^ 63 = 0) (h2 : b % 2 ^ 63 = 0) : addW a b = double.word (neg a && neg b) 0 := by
  rw [addW_fin ha hb (by omega) (by omega), h1, h2]
  simp only [magM_zero.2 rfl]
  simp [Datum.sum, Fl.signed_V, Fl.sg, Ieee.Format.write, Fl.nearest_zero]
theorem addW_comm (a b : Nat) (ha : a < 2 ^ 64) (hb : b < 2 ^ 64) (h1 : a % 2 ^ 63 < 2047 * 2 ^ 52) (h2 : b % 2 ^ 63 < 2047 * 2 ^ 52) : addW a b = addW b a := by
  rw [addW_fin ha hb h1 h2, addW_fin hb ha h2 h1, sum_comm]
theorem addW_zero_right {a b : Nat} (ha : a < 2 ^ 64) (hb : b < 2 ^ 64) (h0 : 0 < a % 2 ^ 63) (h1 : a % 2 ^ 63 < 2047 * 2 ^ 52) (h2 : b % 2 ^ 63 = 0) : addW a b = a := by
  have hM := magM_pos h0
  have hB : magM (b % 2 ^ 63) = 0 := magM_zero.2 h2
  have hE : magE (b % 2 ^ 63) = -1074 := by rw [h2]; rfl
  have hge := magE_ge (a % 2 ^ 63)
  rw [addW_fin ha hb h1 (by omega), hB, hE, sum_core _ _ _ _ _ _ hge]
  have hA : 0 < magM (a % 2 ^ 63) * 2 ^ (magE (a % 2 ^ 63) - -1074).toNat := Nat.mul_pos hM (Nat.two_pow_pos _)
  have hn : double.nearest (neg a) (magM (a % 2 ^ 63) * 2 ^ (magE (a % 2 ^ 63) - -1074).toNat) (-1074) = a := by
    rw [Fl.nearest_shift, show (-1074 : Int) + ((magE (a % 2 ^ 63) - -1074).toNat : Int) = magE (a % 2 ^ 63) from by omega]
    exact nearest_self ha h1
  simp only [Option.getD_some, Nat.add_zero, Nat.sub_zero]
  rw [if_pos hA, hn]
  split <;> rfl
theorem addW_zero_left {a b : Nat} (ha : a < 2 ^ 64) (hb : b < 2 ^ 64) (h1 : a % 2 ^ 63 = 0) (h0 : 0 < b % 2 ^ 63) (h2 : b % 2 ^ 63 < 2047 * 2 ^ 52) : addW a b = b := by
  rw [addW_comm a b ha hb (by omega) h2]; exact addW_zero_right hb ha h0 h2 h1

/-- The whole road of numm.add behind its tests: the greater place first. -/
theorem addW_big {a b : Nat} (ha : a < 2 ^ 64) (hb : b < 2 ^ 64) (h1 : a % 2 ^ 63 < 2047 * 2 ^ 52) (h2 : b % 2 ^ 63 < 2047 * 2 ^ 52) (hij : magE (b % 2 ^ 63) ≤ magE (a % 2 ^ 63)) (D : Nat) (hD : magE (a % 2 ^ 63) - magE (b % 2 ^ 63) = (D : Int)) :
    addW a b = if neg a = neg b then double.nearest (neg a) (magM (a % 2 ^ 63) * 2 ^ D + magM (b % 2 ^ 63)) (magE (b % 2 ^ 63))
      else if magM (b % 2 ^ 63) < magM (a % 2 ^ 63) * 2 ^ D then double.nearest (neg a) (magM (a % 2 ^ 63) * 2 ^ D - magM (b % 2 ^ 63)) (magE (b % 2 ^ 63))
      else if magM (a % 2 ^ 63) * 2 ^ D < magM (b % 2 ^ 63) then double.nearest (neg b) (magM (b % 2 ^ 63) - magM (a % 2 ^ 63) * 2 ^ D) (magE (b % 2 ^ 63))
      else 0 := by
  rw [addW_fin ha hb h1 h2, sum_core _ _ _ _ _ _ hij, hD, Int.toNat_natCast]
  rfl

/-- Cut by k bits: the sum. -/
theorem far_sum (s : Bool) (M n k : Nat) (e : Int) (hM : 2 ^ 53 ≤ M) : Fl.packP s (M + n / 2 ^ k) (e + k) (n % 2 ^ k != 0) = double.nearest s (M * 2 ^ k + n) e := by
  have hk : 0 < 2 ^ k := Nat.two_pow_pos k
  have h := Fl.pack_cut s (M * 2 ^ k + n) k e (.inr (by rw [Nat.add_comm, Nat.add_mul_div_right _ _ hk]; exact Nat.le_trans hM (Nat.le_add_left _ _)))
  rw [show (M * 2 ^ k + n) / 2 ^ k = M + n / 2 ^ k from by rw [Nat.add_comm, Nat.add_mul_div_right _ _ hk, Nat.add_comm], show (M * 2 ^ k + n) % 2 ^ k = n % 2 ^ k from by rw [Nat.add_comm, Nat.add_mul_mod_self_right]] at h
  exact h
/-- Cut by k bits: the difference. -/
theorem far_sub (s : Bool) (M n k : Nat) (e : Int) (hM : 1152921504606846976 ≤ M) (hn : n < 9007199254740992) :
    (n % 2 ^ k ≠ 0 → Fl.packP s (M - n / 2 ^ k - 1) (e + k) true = double.nearest s (M * 2 ^ k - n) e) ∧ (n % 2 ^ k = 0 → Fl.packP s (M - n / 2 ^ k) (e + k) false = double.nearest s (M * 2 ^ k - n) e) := by
  have hk : 0 < 2 ^ k := Nat.two_pow_pos k
  have hdm := Nat.div_add_mod n (2 ^ k)
  have hlt : n % 2 ^ k < 2 ^ k := Nat.mod_lt _ hk
  have hq : n / 2 ^ k ≤ n := Nat.div_le_self _ _
  generalize hQ : n / 2 ^ k = q at *
  generalize hR : n % 2 ^ k = r at *
  have hMk : M * 2 ^ k = (M - q) * 2 ^ k + 2 ^ k * q := by
    rw [Nat.mul_comm (2 ^ k), ← Nat.add_mul, show M - q + q = M from by omega]
  constructor
  · intro hr
    have e1 : M * 2 ^ k - n = (M - q - 1) * 2 ^ k + (2 ^ k - r) := by
      rw [hMk, ← hdm]
      have : (M - q) * 2 ^ k = (M - q - 1) * 2 ^ k + 2 ^ k := by
        rw [← Nat.succ_mul]; congr 1; omega
      rw [this]; omega
    have h := Fl.nearest_sticky s (M - q - 1) k (2 ^ k - r) (e + k) (by omega) (by omega) (by omega)
    have e2 : e + (k : Int) - k = e := by omega
    rw [e2] at h
    rw [e1, h]
    unfold Fl.packP
    rw [if_pos rfl]
  · intro hr
    have e1 : M * 2 ^ k - n = (M - q) * 2 ^ k := by rw [hMk, ← hdm, hr]; omega
    rw [e1, Fl.nearest_shift]
    unfold Fl.packP
    rw [if_neg (by simp)]

theorem nearest_true (m : Nat) (e : Int) : double.nearest true m e = 2 ^ 63 + double.nearest false m e := by
  by_cases h0 : m = 0
  · subst h0; rw [Fl.nearest_zero, Fl.nearest_zero, Fl.word_true, Fl.word_false]
  · rw [Fl.nearest_eq _ _ _ h0, Fl.nearest_eq _ _ _ h0, Fl.word_true, Fl.word_false]
end Go.Proofs.Qxb6500293aGreatRR
