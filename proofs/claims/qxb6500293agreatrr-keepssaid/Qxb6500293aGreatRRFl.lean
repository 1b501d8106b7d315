/-
  THE PLAIN MATHEMATICS OF float64 (no Go in sight): what 'Ieee.double' rounds to, that it hangs on the number alone, what a word reads as.
-/
import Ieee.Arith
import Derived.Laws.FloatBits
namespace Go.Proofs.Qxb6500293aGreatRR
namespace Fl
open Ieee

theorem binade_eq : double.binade = 2 ^ 52 := rfl
theorem infRung_eq : double.infRung = 2047 * 2 ^ 52 := by decide +kernel
theorem signWeight_eq : double.signWeight = 2 ^ 63 := rfl
theorem leastPlace_eq : double.leastPlace = -1074 := by decide +kernel
theorem fractionBits_eq : double.fractionBits = 52 := rfl

/-- 'n / 2^d' to the nearest whole number, a tie to the even one. -/
def rne (n d : Nat) : Nat := n / 2 ^ d + (if 2 ^ d < 2 * (n % 2 ^ d) ∨ (2 ^ d = 2 * (n % 2 ^ d) ∧ n / 2 ^ d % 2 = 1) then 1 else 0)

theorem rne_zero (n : Nat) : rne n 0 = n := by
  simp [rne, Nat.mod_one]

theorem rne_small {n d : Nat} (h : 2 * n < 2 ^ d) : rne n d = 0 := by
  have h1 : n < 2 ^ d := by omega
  unfold rne
  rw [Nat.div_eq_of_lt h1, Nat.mod_eq_of_lt h1, if_neg (by omega)]

theorem cut_even (neg : Bool) (n d : Nat) : Toward.even.cut neg n d = rne n d := by
  have hb : ∀ g : Nat, (decide (g < 2 * (n % g)) || (g == 2 * (n % g) && n / g % 2 == 1)).toNat = if g < 2 * (n % g) ∨ (g = 2 * (n % g) ∧ n / g % 2 = 1) then 1 else 0 := by
    intro g
    by_cases h : g < 2 * (n % g) ∨ (g = 2 * (n % g) ∧ n / g % 2 = 1)
    · have : (decide (g < 2 * (n % g)) || (g == 2 * (n % g) && n / g % 2 == 1)) = true := by simpa using h
      rw [this, if_pos h]; rfl
    · have : (decide (g < 2 * (n % g)) || (g == 2 * (n % g) && n / g % 2 == 1)) = false := by
        rw [Bool.eq_false_iff]; intro hh; exact h (by simpa using hh)
      rw [this, if_neg h]; rfl
  by_cases hd : d ≤ n.log2 + 2
  · have hm : min d (n.log2 + 2) = d := by omega
    unfold Toward.cut rne
    simp only [hm, Nat.shiftLeft_eq, Nat.one_mul]
    rw [hb]
  · have hm : min d (n.log2 + 2) = n.log2 + 2 := by omega
    have h2 : n < 2 ^ (n.log2 + 1) := Nat.lt_log2_self
    have h3 : (2 : Nat) ^ (n.log2 + 2) = 2 * 2 ^ (n.log2 + 1) := by rw [Nat.pow_succ 2 (n.log2 + 1)]; omega
    have h4 : (2 : Nat) ^ (n.log2 + 2) ≤ 2 ^ d := Nat.pow_le_pow_right (by omega) (by omega)
    have e1 : rne n d = 0 := rne_small (by omega)
    have e2 : rne n (n.log2 + 2) = 0 := rne_small (by omega)
    rw [e1, ← e2]
    unfold Toward.cut rne
    simp only [hm, Nat.shiftLeft_eq, Nat.one_mul]
    rw [hb]

theorem rne_mul (n d k : Nat) : rne (n * 2 ^ k) (d + k) = rne n d := by
  have hk : 0 < 2 ^ k := Nat.two_pow_pos k
  unfold rne
  rw [Nat.pow_add, Nat.mul_div_mul_right _ _ hk, Nat.mul_mod_mul_right]
  have e1 : (2 ^ d * 2 ^ k < 2 * (n % 2 ^ d * 2 ^ k)) ↔ (2 ^ d < 2 * (n % 2 ^ d)) := by
    rw [← Nat.mul_assoc]; exact Nat.mul_lt_mul_right hk
  have e2 : (2 ^ d * 2 ^ k = 2 * (n % 2 ^ d * 2 ^ k)) ↔ (2 ^ d = 2 * (n % 2 ^ d)) := by
    rw [← Nat.mul_assoc]; exact Nat.mul_left_inj (by omega)
  simp only [e1, e2]

/-- 'nearest' of this format, written out. -/
theorem nearest_eq (neg : Bool) (mag : Nat) (place : Int) (h : mag ≠ 0) :
    double.nearest neg mag place =
      double.word neg (min ((max (place + mag.log2 - 52) (-1074) + 1074).toNat * 2 ^ 52 +
        rne (mag * 2 ^ (place - max (place + mag.log2 - 52) (-1074)).toNat) (max (place + mag.log2 - 52) (-1074) - place).toNat) (2047 * 2 ^ 52)) := by
  unfold Format.nearest
  rw [if_neg h]
  simp only [cut_even, Nat.shiftLeft_eq, leastPlace_eq, infRung_eq, binade_eq, fractionBits_eq]
  congr 5
  
theorem log2_mul_pow (m k : Nat) (h : m ≠ 0) : (m * 2 ^ k).log2 = m.log2 + k := by
  have hk : 0 < 2 ^ k := Nat.two_pow_pos k
  have h0 : m * 2 ^ k ≠ 0 := by
    have : 0 < m * 2 ^ k := Nat.mul_pos (by omega) hk
    omega
  rw [Nat.log2_eq_iff h0]
  have a := Nat.log2_self_le h
  have b : m < 2 ^ (m.log2 + 1) := Nat.lt_log2_self
  constructor
  · rw [Nat.pow_add]; exact Nat.mul_le_mul_right _ a
  · rw [show m.log2 + k + 1 = (m.log2 + 1) + k from by omega, Nat.pow_add]
    exact (Nat.mul_lt_mul_right hk).2 b

/-- Rounding hangs on the number alone: the power may go into the magnitude. -/
theorem nearest_shift (neg : Bool) (m k : Nat) (e : Int) : double.nearest neg (m * 2 ^ k) e = double.nearest neg m (e + k) := by
  by_cases h : m = 0
  · subst h; simp [Format.nearest]
  have hk : 0 < 2 ^ k := Nat.two_pow_pos k
  have h0 : m * 2 ^ k ≠ 0 := by
    have : 0 < m * 2 ^ k := Nat.mul_pos (by omega) hk
    omega
  rw [nearest_eq _ _ _ h0, nearest_eq _ _ _ h, log2_mul_pow m k h]
  have e1 : e + ((m.log2 + k : Nat) : Int) - 52 = e + k + m.log2 - 52 := by omega
  rw [e1]
  generalize max (e + (k : Int) + (m.log2 : Int) - 52) (-1074) = last
  congr 3
  by_cases c1 : e + k ≤ last
  · have z1 : (e - last).toNat = 0 := by omega
    have z2 : (e + k - last).toNat = 0 := by omega
    have z3 : (last - e).toNat = (last - (e + k)).toNat + k := by omega
    rw [z1, z2, z3, Nat.pow_zero, Nat.mul_one, Nat.mul_one, rne_mul]
  · by_cases c2 : e ≤ last
    · have z1 : (e - last).toNat = 0 := by omega
      have z2 : (last - (e + k)).toNat = 0 := by omega
      rw [z1, z2, rne_zero, Nat.pow_zero, Nat.mul_one]
      have z3 : k = (e + k - last).toNat + (last - e).toNat := by omega
      have z4 : (last - e).toNat = 0 + (last - e).toNat := by omega
      rw [show m * 2 ^ k = (m * 2 ^ (e + k - last).toNat) * 2 ^ (last - e).toNat from by
        rw [Nat.mul_assoc, ← Nat.pow_add, ← z3]]
      rw [z4, Nat.zero_add]
      have := rne_mul (m * 2 ^ (e + k - last).toNat) 0 (last - e).toNat
      rw [Nat.zero_add, rne_zero] at this
      exact this
    · have z2 : (last - (e + k)).toNat = 0 := by omega
      have z4 : (last - e).toNat = 0 := by omega
      have z3 : (e + k - last).toNat = k + (e - last).toNat := by omega
      rw [z2, z4, rne_zero, rne_zero, z3, Nat.pow_add, Nat.mul_assoc]

/-- The same number under two spellings. -/
def Same (m : Nat) (e : Int) (n : Nat) (f : Int) : Prop := m * 2 ^ (e - min e f).toNat = n * 2 ^ (f - min e f).toNat

theorem nearest_same {m n : Nat} {e f : Int} (h : Same m e n f) (neg : Bool) : double.nearest neg m e = double.nearest neg n f := by
  unfold Same at h
  have a := nearest_shift neg m (e - min e f).toNat (min e f)
  have b := nearest_shift neg n (f - min e f).toNat (min e f)
  rw [h] at a
  rw [show min e f + ((e - min e f).toNat : Int) = e from by omega] at a
  rw [show min e f + ((f - min e f).toNat : Int) = f from by omega] at b
  rw [← a, ← b]

theorem same_up (m k : Nat) (e : Int) : Same (m * 2 ^ k) e m (e + k) := by
  unfold Same
  rw [show (e - min e (e + k)).toNat = 0 from by omega, show (e + k - min e (e + k)).toNat = k from by omega]; simp
theorem same_of {m n k : Nat} {e f : Int} (h1 : m = n * 2 ^ k) (h2 : f = e + k) : Same m e n f := by
  subst h1; subst h2; exact same_up n k e
theorem Same.symm {m n : Nat} {e f : Int} (h : Same m e n f) : Same n f m e := by
  unfold Same at *; rw [Int.min_comm f e]; exact h.symm


/-! ### Words -/
theorem word_true (r : Nat) : double.word true r = 2 ^ 63 + r := by simp [Format.word, signWeight_eq]
theorem word_false (r : Nat) : double.word false r = r := by simp [Format.word]
theorem word_mod (neg : Bool) {r : Nat} (h : r < 2 ^ 63) : double.word neg r % 2 ^ 63 = r := by
  cases neg
  · rw [word_false]; exact Nat.mod_eq_of_lt h
  · rw [word_true]; omega
theorem word_div (neg : Bool) {r : Nat} (h : r < 2 ^ 63) : (double.word neg r / 2 ^ 63 % 2 == 1) = neg := by
  cases neg
  · rw [word_false, Nat.div_eq_of_lt h]; rfl
  · rw [word_true, show (2 ^ 63 + r) / 2 ^ 63 = 1 from by omega]; rfl

/-- What a word stands for, by its rung. -/
def rd (neg : Bool) (r : Nat) : Datum :=
  if r < 2 ^ 52 then .number neg r (-1074)
  else if r < 2047 * 2 ^ 52 then .number neg (2 ^ 52 + r % 2 ^ 52) (-1074 + (r / 2 ^ 52 - 1 : Nat))
  else if r = 2047 * 2 ^ 52 then .infinity neg
  else .nan neg (r - 2047 * 2 ^ 52)

theorem read_eq (w : Nat) : double.read w = rd (w / 2 ^ 63 % 2 == 1) (w % 2 ^ 63) := by
  unfold Format.read rd
  simp only [signWeight_eq, binade_eq, infRung_eq, leastPlace_eq]

theorem read_word (neg : Bool) {r : Nat} (h : r < 2 ^ 63) : double.read (double.word neg r) = rd neg r := by
  rw [read_eq, word_mod neg h, word_div neg h]

/-- A word under 2^64 is the word of its sign and its rung. -/
theorem word_of (w : Nat) (h : w < 2 ^ 64) : w = double.word (w / 2 ^ 63 % 2 == 1) (w % 2 ^ 63) := by
  by_cases c : w < 2 ^ 63
  · rw [Nat.div_eq_of_lt c, Nat.mod_eq_of_lt c]; exact (word_false w).symm
  · have e1 : w / 2 ^ 63 = 1 := by omega
    have e2 : w % 2 ^ 63 = w - 2 ^ 63 := by omega
    rw [e1, e2]
    show w = double.word true _
    rw [word_true]; omega

theorem log2_ge {m k : Nat} (h : 2 ^ k ≤ m) : k ≤ m.log2 :=
  (Nat.le_log2 (by have := Nat.two_pow_pos k; omega)).2 h
theorem log2_lt {m k : Nat} (h0 : m ≠ 0) (h : m < 2 ^ k) : m.log2 < k := (Nat.log2_lt h0).2 h

/-- Of a finite rung: the word that is nearest to what it stands for is itself. -/
theorem nearest_rd (neg : Bool) (r : Nat) (h : r < 2047 * 2 ^ 52) : ∃ m e, rd neg r = .number neg m e ∧ double.nearest neg m e = double.word neg r ∧ (m = 0 ↔ r = 0) ∧ m < 2 ^ 53 ∧ -1074 ≤ e ∧ e ≤ 971 ∧ (-1074 < e → 2 ^ 52 ≤ m) := by
  unfold rd
  by_cases c : r < 2 ^ 52
  · rw [if_pos c]
    refine ⟨r, -1074, rfl, ?_, Iff.rfl, by omega, by omega, by omega, by omega⟩
    by_cases h0 : r = 0
    · subst h0; simp [Format.nearest]
    · have hl := log2_lt h0 c
      rw [nearest_eq _ _ _ h0]
      rw [show max (-1074 + (r.log2 : Int) - 52) (-1074) = -1074 from by omega]
      simp only [show ((-1074 : Int) + 1074).toNat = 0 from rfl, show ((-1074 : Int) - -1074).toNat = 0 from rfl, rne_zero, Nat.pow_zero, Nat.mul_one, Nat.zero_mul, Nat.zero_add]
      rw [Nat.min_eq_left (by omega)]
  · rw [if_neg c, if_pos h]
    have hm : r % 2 ^ 52 < 2 ^ 52 := Nat.mod_lt _ (by omega)
    have hq : 1 ≤ r / 2 ^ 52 := by omega
    have hq2 : r / 2 ^ 52 ≤ 2046 := by omega
    refine ⟨_, _, rfl, ?_, by omega, by omega, by omega, by omega, by omega⟩
    have hL : (2 ^ 52 + r % 2 ^ 52).log2 = 52 := by
      rw [Nat.log2_eq_iff (by omega)]; omega
    rw [nearest_eq _ _ _ (by omega), hL]
    generalize hd : (r / 2 ^ 52 - 1 : Nat) = d
    have hd' : d ≤ 2045 := by omega
    rw [show max (-1074 + (d : Int) + ((52 : Nat) : Int) - 52) (-1074) = -1074 + d from by omega]
    rw [show (-1074 + (d : Int) + 1074).toNat = d from by omega, show (-1074 + (d : Int) - (-1074 + d)).toNat = 0 from by omega, rne_zero, Nat.pow_zero, Nat.mul_one]
    rw [show d * 2 ^ 52 + (2 ^ 52 + r % 2 ^ 52) = r from by omega]
    rw [Nat.min_eq_left (by omega)]

/-- What is too great rounds to infinity. -/
theorem nearest_inf (neg : Bool) (m : Nat) (e : Int) (h0 : m ≠ 0) (h : 1024 ≤ e + m.log2) : double.nearest neg m e = double.word neg (2047 * 2 ^ 52) := by
  rw [nearest_eq _ _ _ h0]
  have hlast : max (e + (m.log2 : Int) - 52) (-1074) = e + m.log2 - 52 := by omega
  rw [hlast]
  have hk : 2 ^ 52 ≤ rne (m * 2 ^ (e - (e + (m.log2 : Int) - 52)).toNat) (e + (m.log2 : Int) - 52 - e).toNat := by
    have a := Nat.log2_self_le h0
    by_cases c : m.log2 ≤ 52
    · rw [show (e + (m.log2 : Int) - 52 - e).toNat = 0 from by omega, rne_zero, show (e - (e + (m.log2 : Int) - 52)).toNat = 52 - m.log2 from by omega]
      calc 2 ^ 52 = 2 ^ m.log2 * 2 ^ (52 - m.log2) := by rw [← Nat.pow_add]; congr 1; omega
        _ ≤ _ := Nat.mul_le_mul_right _ a
    · rw [show (e - (e + (m.log2 : Int) - 52)).toNat = 0 from by omega, Nat.pow_zero, Nat.mul_one, show (e + (m.log2 : Int) - 52 - e).toNat = m.log2 - 52 from by omega]
      unfold rne
      refine Nat.le_trans ?_ (Nat.le_add_right _ _)
      rw [Nat.le_div_iff_mul_le (Nat.two_pow_pos _), ← Nat.pow_add, show 52 + (m.log2 - 52) = m.log2 from by omega]
      exact a
  have h3 : 2046 ≤ (e + (m.log2 : Int) - 52 + 1074).toNat := by omega
  generalize (e + (m.log2 : Int) - 52 + 1074).toNat = A at *
  generalize rne _ _ = B at *
  rw [Nat.min_eq_right]
  have : 2046 * 2 ^ 52 ≤ A * 2 ^ 52 := Nat.mul_le_mul_right _ h3
  omega

/-- A whole number of at most 53 bits (or 2^53 itself), at a place of the format, not too great: the word reads as the very number. -/
theorem read_nearest (neg : Bool) (m : Nat) (e : Int) (h0 : m ≠ 0) (hm : m ≤ 2 ^ 53) (he : -1074 ≤ e) (ht : e + m.log2 < 1024) :
    ∃ n f, double.read (double.nearest neg m e) = .number neg n f ∧ Same n f m e ∧ n ≠ 0 ∧ n < 2 ^ 53 ∧ -1074 ≤ f ∧ f ≤ 971 := by
  have hle := Nat.log2_self_le h0
  have hlt : m < 2 ^ (m.log2 + 1) := Nat.lt_log2_self
  -- without loss: below 2^53
  have main : ∀ (m : Nat) (e : Int), m ≠ 0 → m < 2 ^ 53 → -1074 ≤ e → e + m.log2 < 1024 → ∃ n f, double.read (double.nearest neg m e) = .number neg n f ∧ Same n f m e ∧ n ≠ 0 ∧ n < 2 ^ 53 ∧ -1074 ≤ f ∧ f ≤ 971 := by
    intro m e h0 hm he ht
    have hle := Nat.log2_self_le h0
    have hlt : m < 2 ^ (m.log2 + 1) := Nat.lt_log2_self
    have hL : m.log2 < 53 := log2_lt h0 hm
    rw [nearest_eq _ _ _ h0]
    generalize hlast : max (e + (m.log2 : Int) - 52) (-1074) = last
    have hl1 : last ≤ e := by omega
    have hl2 : -1074 ≤ last := by omega
    have hl3 : last ≤ 971 := by omega
    rw [show (last - e).toNat = 0 from by omega, rne_zero]
    generalize hk : m * 2 ^ (e - last).toNat = k
    have hk0 : k ≠ 0 := by
      have : 0 < m * 2 ^ (e - last).toNat := Nat.mul_pos (by omega) (Nat.two_pow_pos _)
      omega
    have hkle : k < 2 ^ 53 := by
      rw [← hk]
      calc m * 2 ^ (e - last).toNat < 2 ^ (m.log2 + 1) * 2 ^ (e - last).toNat := (Nat.mul_lt_mul_right (Nat.two_pow_pos _)).2 hlt
        _ = 2 ^ (m.log2 + 1 + (e - last).toNat) := by rw [← Nat.pow_add]
        _ ≤ 2 ^ 53 := Nat.pow_le_pow_right (by omega) (by omega)
    have hsame : Same k last m e := by
      refine same_of hk.symm ?_
      omega
    have hkge : -1074 < last → 2 ^ 52 ≤ k := by
      intro hl
      rw [← hk]
      calc 2 ^ 52 = 2 ^ m.log2 * 2 ^ (e - last).toNat := by rw [← Nat.pow_add]; congr 1; omega
        _ ≤ _ := Nat.mul_le_mul_right _ hle
    generalize hA : (last + 1074).toNat = A
    have hA1 : A ≤ 2045 := by omega
    have hA2 : (A : Int) = last + 1074 := by omega
    have hr : A * 2 ^ 52 + k ≤ 2047 * 2 ^ 52 - 1 := by omega
    rw [Nat.min_eq_left (by omega), read_word _ (by omega)]
    refine ⟨k, last, ?_, hsame, hk0, hkle, hl2, hl3⟩
    unfold rd
    by_cases c : A * 2 ^ 52 + k < 2 ^ 52
    · rw [if_pos c]
      have hA0 : A = 0 := by omega
      have : last = -1074 := by omega
      subst this; subst hA0; simp
    · rw [if_neg c, if_pos (by omega)]
      have hk52 : 2 ^ 52 ≤ k := by
        by_cases c2 : -1074 < last
        · exact hkge c2
        · have : A = 0 := by omega
          subst this; omega
      have e1 : (A * 2 ^ 52 + k) % 2 ^ 52 = k - 2 ^ 52 := by omega
      have e2 : (A * 2 ^ 52 + k) / 2 ^ 52 = A + 1 := by omega
      rw [e1, e2, show 2 ^ 52 + (k - 2 ^ 52) = k from by omega, show (-1074 : Int) + ((A + 1 - 1 : Nat) : Int) = last from by omega]
  by_cases c : m = 2 ^ 53
  · subst c
    have e53 : (2 ^ 53 : Nat).log2 = 53 := Nat.log2_two_pow
    have := main (2 ^ 52) (e + 1) (by decide) (by decide) (by omega) (by rw [Nat.log2_two_pow]; rw [e53] at ht; omega)
    obtain ⟨n, f, h1, h2, h3⟩ := this
    have hs : Same (2 ^ 53) e (2 ^ 52) (e + 1) := same_of (k := 1) (by decide) rfl
    rw [← nearest_same hs neg] at h1
    refine ⟨n, f, h1, ?_, h3⟩
    unfold Same at h2 ⊢
    have e1 : (2 : Nat) ^ 53 = 2 ^ 52 * 2 ^ 1 := by decide
    by_cases cf : f ≤ e
    · rw [show (f - min f e).toNat = 0 from by omega, show (e - min f e).toNat = (e - f).toNat from by omega]
      rw [show (f - min f (e + 1)).toNat = 0 from by omega, show (e + 1 - min f (e + 1)).toNat = 1 + (e - f).toNat from by omega] at h2
      rw [h2, Nat.pow_add, e1, Nat.mul_assoc]
    · rw [show (f - min f e).toNat = (f - (e + 1)).toNat + 1 from by omega, show (e - min f e).toNat = 0 from by omega]
      rw [show (f - min f (e + 1)).toNat = (f - (e + 1)).toNat from by omega, show (e + 1 - min f (e + 1)).toNat = 0 from by omega] at h2
      rw [Nat.pow_succ, ← Nat.mul_assoc, h2]
  · exact main m e h0 (by omega) he ht


/-! ### Arithmetic -/
theorem add_self {v : Nat} {neg : Bool} {n : Nat} {f : Int} (h : double.read v = .number neg n f) : double.add v v = some (double.nearest neg n (f + 1)) := by
  unfold Format.add
  rw [h]
  have e : Datum.sum (.number neg n f) (.number neg n f) = some (.number neg (n * 2 ^ 1) f) := by
    simp only [Datum.sum, signed, Int.min_self, Int.sub_self, Int.toNat_zero, Nat.shiftLeft_zero, Option.some.injEq, Datum.number.injEq, and_true]
    cases neg
    · simp only [Bool.false_eq_true, if_false, Bool.and_self]
      refine ⟨?_, by omega⟩
      split
      · rfl
      · exact decide_eq_false (by omega)
    · simp only [if_true, Bool.and_self]
      refine ⟨?_, by omega⟩
      split
      · rfl
      · exact decide_eq_true (by omega)
  rw [e]
  show some (double.nearest neg (n * 2 ^ 1) f) = _
  rw [nearest_shift]; rfl

theorem mul_num {a b : Nat} {s t : Bool} {m n : Nat} {i j : Int} (ha : double.read a = .number s m i) (hb : double.read b = .number t n j) :
    double.mul a b = some (double.nearest (s ^^ t) (m * n) (i + j)) := by
  unfold Format.mul
  rw [ha, hb]; rfl

/-- A quotient by a power of two is exact ahead of the rounding. -/
theorem div_pow {a b : Nat} {s t : Bool} {m k : Nat} {i j : Int} (ha : double.read a = .number s m i) (hb : double.read b = .number t (2 ^ k) j) (hm : m < 2 ^ 53) :
    double.div a b = some (double.nearest (s ^^ t) m (i - j - k)) := by
  unfold Format.div
  rw [ha, hb]
  have hk : 0 < 2 ^ k := Nat.two_pow_pos k
  have e : Datum.quotient (double.fractionBits + 2) (.number s m i) (.number t (2 ^ k) j) = some (.number (s ^^ t) (m * 2 ^ (54 - m.log2 + 1)) (i - j - ((54 + k - m.log2 : Nat) : Int) - 1)) := by
    have hl : m.log2 ≤ 52 := by
      by_cases h0 : m = 0
      · subst h0; decide
      · have := log2_lt h0 hm; omega
    simp only [Datum.quotient, if_neg (show ¬ 2 ^ k = 0 by omega), fractionBits_eq, Nat.log2_two_pow, Nat.shiftLeft_eq]
    rw [show 52 + 2 + k - m.log2 = (54 - m.log2) + k from by omega, Nat.pow_add 2 (54 - m.log2) k, ← Nat.mul_assoc]
    rw [Nat.mul_div_cancel _ hk, Nat.mul_mod_left]
    simp only [Option.some.injEq, Datum.number.injEq, true_and, and_true]
    rw [Nat.pow_succ]
    show 2 * (m * 2 ^ (54 - m.log2)) + 0 = _
    rw [Nat.add_zero, Nat.mul_comm 2, Nat.mul_assoc]
  rw [e]
  show some (double.nearest _ (m * 2 ^ (54 - m.log2 + 1)) _) = _
  have hl : m.log2 ≤ 52 := by
    by_cases h0 : m = 0
    · subst h0; decide
    · have := log2_lt h0 hm; omega
  rw [nearest_shift]
  congr 2
  omega

theorem same_pow {n : Nat} {g f : Int} (h : Same n g 1 f) : ∃ a : Nat, n = 2 ^ a ∧ g + a = f := by
  unfold Same at h
  by_cases c : g ≤ f
  · rw [show (g - min g f).toNat = 0 from by omega] at h
    exact ⟨(f - min g f).toNat, by simpa using h, by omega⟩
  · rw [show (f - min g f).toNat = 0 from by omega, show (g - min g f).toNat = (g - f).toNat - 1 + 1 from by omega] at h
    rw [Nat.pow_succ] at h
    have : 2 ∣ (1 * 2 ^ 0 : Nat) := by rw [← h, ← Nat.mul_assoc]; exact Nat.dvd_mul_left _ _
    exact absurd this (by decide)

theorem Same.mul {m n k : Nat} {e f : Int} (h : Same m e n f) (g : Int) : Same (m * k) (e + g) (n * k) (f + g) := by
  unfold Same at *
  rw [show (e + g - min (e + g) (f + g)).toNat = (e - min e f).toNat from by omega, show (f + g - min (e + g) (f + g)).toNat = (f - min e f).toNat from by omega]
  rw [Nat.mul_right_comm, h, Nat.mul_right_comm]
theorem Same.shift {m n : Nat} {e f : Int} (h : Same m e n f) (g : Int) : Same m (e + g) n (f + g) := by
  have := h.mul (k := 1) g
  simpa using this

theorem read_nearest_zero (neg : Bool) (e : Int) : double.read (double.nearest neg 0 e) = .number neg 0 (-1074) := by
  have : double.nearest neg 0 e = double.word neg 0 := by simp [Format.nearest]
  rw [this, read_word _ (by decide)]
  rfl

theorem nearest_zero (neg : Bool) (e : Int) : double.nearest neg 0 e = double.word neg 0 := by simp [Format.nearest]

/-- 'v' is the number m * 2^e exactly: what its word reads as. -/
theorem read_exact (neg : Bool) (m : Nat) (e : Int) (hm : m ≤ 2 ^ 53) (he : -1074 ≤ e) (ht : m ≠ 0 → e + m.log2 < 1024) :
    ∃ n f, double.read (double.nearest neg m e) = .number neg n f ∧ (∀ g, Same n (f + g) m (e + g) ∨ (n = 0 ∧ m = 0)) ∧ n < 2 ^ 53 ∧ -1074 ≤ f ∧ f ≤ 971 ∧ (n = 0 ↔ m = 0) := by
  by_cases h0 : m = 0
  · subst h0
    exact ⟨0, -1074, read_nearest_zero neg e, fun _ => .inr ⟨rfl, rfl⟩, by decide, by decide, by decide, Iff.rfl⟩
  · obtain ⟨n, f, h1, h2, h3, h4, h5, h6⟩ := read_nearest neg m e h0 hm he (ht h0)
    exact ⟨n, f, h1, fun g => .inl (h2.shift g), h4, h5, h6, by omega⟩

theorem nearest_of_sameOr {n m : Nat} {f e : Int} (h : Same n f m e ∨ (n = 0 ∧ m = 0)) (neg : Bool) : double.nearest neg n f = double.nearest neg m e := by
  rcases h with h | ⟨rfl, rfl⟩
  · exact nearest_same h neg
  · rw [nearest_zero, nearest_zero]

/-- A power of two of the format. -/
theorem read_pow (f : Int) (h1 : -1074 ≤ f) (h2 : f ≤ 1023) : ∃ (a : Nat) (g : Int), double.read (double.nearest false 1 f) = .number false (2 ^ a) g ∧ g + a = f := by
  have hl : (1 : Nat).log2 = 0 := by decide
  obtain ⟨n, g, h3, h4, _⟩ := read_nearest false 1 f (by decide) (by decide) h1 (by omega)
  obtain ⟨a, rfl, ha⟩ := same_pow h4
  exact ⟨a, g, h3, ha⟩

/-- A product with a power of two: rounded once. -/
theorem mul_pow2 (neg : Bool) (m : Nat) (e f : Int) (hm : m ≤ 2 ^ 53) (he : -1074 ≤ e) (ht : m ≠ 0 → e + m.log2 < 1024) (h1 : -1074 ≤ f) (h2 : f ≤ 1023) :
    double.mul (double.nearest neg m e) (double.nearest false 1 f) = some (double.nearest neg m (e + f)) := by
  obtain ⟨n, g, hr, hs, hn, _⟩ := read_exact neg m e hm he ht
  obtain ⟨a, j, hp, ha⟩ := read_pow f h1 h2
  rw [mul_num hr hp, nearest_shift, Bool.xor_false]
  rw [show g + j + a = g + f from by omega]
  rw [nearest_of_sameOr (hs f)]

/-- A quotient by a power of two: rounded once. -/
theorem div_pow2 (neg : Bool) (m : Nat) (e f : Int) (hm : m ≤ 2 ^ 53) (he : -1074 ≤ e) (ht : m ≠ 0 → e + m.log2 < 1024) (h1 : -1074 ≤ f) (h2 : f ≤ 1023) :
    double.div (double.nearest neg m e) (double.nearest false 1 f) = some (double.nearest neg m (e - f)) := by
  obtain ⟨n, g, hr, hs, hn, _⟩ := read_exact neg m e hm he ht
  obtain ⟨a, j, hp, ha⟩ := read_pow f h1 h2
  rw [div_pow hr hp hn, Bool.xor_false]
  rw [show g - j - a = g + (-f) from by omega, show e - f = e + (-f) from by omega]
  rw [nearest_of_sameOr (hs (-f))]

/-- The double of an exact number. -/
theorem add_twice (neg : Bool) (m : Nat) (e : Int) (hm : m ≤ 2 ^ 53) (he : -1074 ≤ e) :
    double.add (double.nearest neg m e) (double.nearest neg m e) = some (double.nearest neg m (e + 1)) := by
  by_cases ht : m ≠ 0 → e + m.log2 < 1024
  · obtain ⟨n, g, hr, hs, hn, _⟩ := read_exact neg m e hm he ht
    rw [add_self hr, nearest_of_sameOr (hs 1)]
  · have h0 : m ≠ 0 := fun h => ht (fun h' => absurd h h')
    have h2 : 1024 ≤ e + m.log2 := by
      by_cases c : e + m.log2 < 1024
      · exact absurd (fun _ => c) ht
      · omega
    rw [nearest_inf neg m e h0 h2, nearest_inf neg m (e + 1) h0 (by omega)]
    unfold Format.add
    rw [read_word _ (by decide)]
    have : rd neg (2047 * 2 ^ 52) = .infinity neg := by
      unfold rd; rw [if_neg (by decide), if_neg (by decide), if_pos rfl]
    rw [this]
    have e1 : Datum.sum (.infinity neg) (.infinity neg) = some (.infinity neg) := by simp [Datum.sum]
    rw [e1]
    show some (double.word neg double.infRung) = _
    rw [infRung_eq]

/-- Below the least place: the word is the whole number to the nearest. -/
theorem nearest_sub (m : Nat) (e : Int) (hm : m ≤ 2 ^ 53) (he : e < -1074) : double.nearest false m e = rne m (-1074 - e).toNat := by
  by_cases h0 : m = 0
  · subst h0
    rw [nearest_zero, word_false]
    unfold rne
    have := Nat.two_pow_pos (-1074 - e).toNat
    rw [Nat.zero_div, Nat.zero_mod, if_neg (by omega)]
  · have hl : m.log2 ≤ 53 := by
      have := log2_lt h0 (show m < 2 ^ 54 by omega)
      omega
    rw [nearest_eq _ _ _ h0]
    rw [show max (e + (m.log2 : Int) - 52) (-1074) = -1074 from by omega]
    rw [show ((-1074 : Int) + 1074).toNat = 0 from rfl, show (e - -1074).toNat = 0 from by omega, Nat.pow_zero, Nat.mul_one, Nat.zero_mul, Nat.zero_add, word_false]
    rw [Nat.min_eq_left]
    unfold rne
    have : m / 2 ^ (-1074 - e).toNat ≤ m := Nat.div_le_self _ _
    split <;> omega

end Fl
end Go.Proofs.Qxb6500293aGreatRR
