/-
  THE PLAIN MATHEMATICS OF float64, MORE: the order of two words is the order of their rungs; floor; the whole number that a word is.
-/
import Derived.Test.Qxb6500293aGreatRRFl
namespace Go.Proofs.Qxb6500293aGreatRR
namespace Fl
open Ieee

/-- The magnitude of a finite rung, in units of the least place. -/
def V (r : Nat) : Nat := if r < 2 ^ 52 then r else (2 ^ 52 + r % 2 ^ 52) * 2 ^ (r / 2 ^ 52 - 1)

theorem V_lt {a b : Nat} (h : a < b) : V a < V b := by
  unfold V
  by_cases ca : a < 2 ^ 52
  · rw [if_pos ca]
    by_cases cb : b < 2 ^ 52
    · rw [if_pos cb]; exact h
    · rw [if_neg cb]
      have hp : 1 ≤ 2 ^ (b / 2 ^ 52 - 1) := Nat.one_le_two_pow
      calc a < 2 ^ 52 + b % 2 ^ 52 := by omega
        _ = (2 ^ 52 + b % 2 ^ 52) * 1 := by omega
        _ ≤ _ := Nat.mul_le_mul_left _ hp
  · have cb : ¬ b < 2 ^ 52 := by omega
    rw [if_neg ca, if_neg cb]
    by_cases ce : a / 2 ^ 52 = b / 2 ^ 52
    · rw [ce]
      exact (Nat.mul_lt_mul_right (Nat.two_pow_pos _)).2 (by omega)
    · have hlt : a / 2 ^ 52 < b / 2 ^ 52 := by omega
      have hpa := Nat.two_pow_pos (a / 2 ^ 52 - 1)
      have e1 : 2 ^ (a / 2 ^ 52 - 1) * 2 ≤ 2 ^ (b / 2 ^ 52 - 1) := by
        rw [← Nat.pow_succ]; exact Nat.pow_le_pow_right (by omega) (by omega)
      generalize 2 ^ (b / 2 ^ 52 - 1) = B at *
      generalize 2 ^ (a / 2 ^ 52 - 1) = A at *
      have h1 : (2 ^ 52 + a % 2 ^ 52) * A < 2 ^ 53 * A := (Nat.mul_lt_mul_right hpa).2 (by omega)
      have h2 : 2 ^ 52 * B ≤ (2 ^ 52 + b % 2 ^ 52) * B := Nat.mul_le_mul_right _ (by omega)
      omega
theorem V_inj {a b : Nat} : V a = V b ↔ a = b := by
  constructor
  · intro h
    rcases Nat.lt_trichotomy a b with c | c | c
    · have := V_lt c; omega
    · exact c
    · have := V_lt c; omega
  · rintro rfl; rfl
theorem V_lt_iff {a b : Nat} : V a < V b ↔ a < b := by
  constructor
  · intro h
    rcases Nat.lt_trichotomy a b with c | c | c
    · exact c
    · subst c; omega
    · have := V_lt c; omega
  · exact V_lt
theorem V_zero : V 0 = 0 := by decide

/-- A finite rung's datum: its magnitude and place, and how they stand to V. -/
theorem rd_V (neg : Bool) (r : Nat) (h : r < 2047 * 2 ^ 52) : ∃ m e, rd neg r = .number neg m e ∧ -1074 ≤ e ∧ V r = m * 2 ^ (e + 1074).toNat := by
  unfold rd V
  by_cases c : r < 2 ^ 52
  · rw [if_pos c, if_pos c]
    exact ⟨_, _, rfl, by omega, by simp⟩
  · rw [if_neg c, if_pos h, if_neg c]
    refine ⟨_, _, rfl, by omega, ?_⟩
    rw [show (-1074 + ((r / 2 ^ 52 - 1 : Nat) : Int) + 1074).toNat = r / 2 ^ 52 - 1 from by omega]
theorem rd_inf (neg : Bool) : rd neg (2047 * 2 ^ 52) = .infinity neg := by
  unfold rd; rw [if_neg (by decide), if_neg (by decide), if_pos rfl]
theorem rd_nan (neg : Bool) {r : Nat} (h : 2047 * 2 ^ 52 < r) : rd neg r = .nan neg (r - 2047 * 2 ^ 52) := by
  unfold rd; rw [if_neg (by omega), if_neg (by omega), if_neg (by omega)]

/-- A rung with its sign. -/
def sg (neg : Bool) (r : Nat) : Int := if neg then -(r : Int) else r

theorem cmp_lt {a b : Int} (h : a < b) : compare a b = .lt := by simp [compare, compareOfLessAndEq, h]
theorem cmp_gt {a b : Int} (h : b < a) : compare a b = .gt := by
  have h1 : ¬ a < b := by omega
  have h2 : ¬ a = b := by omega
  simp [compare, compareOfLessAndEq, h1, h2]
theorem cmp_eq {a b : Int} (h : a = b) : compare a b = .eq := by subst h; simp [compare, compareOfLessAndEq]
theorem ncmp_lt {a b : Nat} (h : a < b) : compare a b = .lt := by simp [compare, compareOfLessAndEq, h]
theorem ncmp_gt {a b : Nat} (h : b < a) : compare a b = .gt := by
  have h1 : ¬ a < b := by omega
  have h2 : ¬ a = b := by omega
  simp [compare, compareOfLessAndEq, h1, h2]

theorem signed_V (s : Bool) (m k : Nat) : signed s m k = sg s (m * 2 ^ k) := by
  unfold signed sg; simp only [Nat.shiftLeft_eq]

theorem sg_cmp (s t : Bool) (a b x y k : Nat) (hx : V a = x * 2 ^ k) (hy : V b = y * 2 ^ k) : compare (sg s x) (sg t y) = compare (sg s a) (sg t b) := by
  have hk : 0 < 2 ^ k := Nat.two_pow_pos k
  have z1 : x = 0 ↔ a = 0 := by
    rw [← V_inj (a := a) (b := 0), V_zero, hx]
    constructor
    · rintro rfl; simp
    · intro h; rcases Nat.mul_eq_zero.1 h with h | h <;> omega
  have z2 : y = 0 ↔ b = 0 := by
    rw [← V_inj (a := b) (b := 0), V_zero, hy]
    constructor
    · rintro rfl; simp
    · intro h; rcases Nat.mul_eq_zero.1 h with h | h <;> omega
  have l1 : x < y ↔ a < b := by rw [← V_lt_iff (a := a) (b := b), hx, hy]; exact (Nat.mul_lt_mul_right hk).symm
  have l2 : y < x ↔ b < a := by rw [← V_lt_iff (a := b) (b := a), hx, hy]; exact (Nat.mul_lt_mul_right hk).symm
  have key : ∀ p q p' q' : Int, (p < q ↔ p' < q') → (q < p ↔ q' < p') → compare p q = compare p' q' := by
    intro p q p' q' h1 h2
    rcases Int.lt_trichotomy p q with c | c | c
    · rw [cmp_lt c, cmp_lt (h1.1 c)]
    · rw [cmp_eq c, cmp_eq (by omega)]
    · rw [cmp_gt c, cmp_gt (h2.1 c)]
  apply key <;> unfold sg <;> cases s <;> cases t <;> simp only [if_true, if_false, Bool.false_eq_true] <;> omega

/-- THE ORDER OF TWO WORDS THAT ARE NO NaNs: their rungs' order, the sign counted. -/
theorem order_word (s t : Bool) {a b : Nat} (ha : a ≤ 2047 * 2 ^ 52) (hb : b ≤ 2047 * 2 ^ 52) : double.order (double.word s a) (double.word t b) = some (compare (sg s a) (sg t b)) := by
  unfold Format.order
  rw [read_word s (by omega), read_word t (by omega)]
  by_cases ca : a = 2047 * 2 ^ 52
  · by_cases cb : b = 2047 * 2 ^ 52
    · subst ca; subst cb
      rw [rd_inf, rd_inf]
      cases s <;> cases t <;> decide
    · obtain ⟨n, j, h2, _, _⟩ := rd_V t b (by omega)
      subst ca
      rw [rd_inf, h2]
      simp only [Datum.order, Option.some.injEq]
      cases s
      · simp only [Bool.false_eq_true, if_false]
        exact (cmp_gt (by unfold sg; cases t <;> simp only [if_true, if_false, Bool.false_eq_true] <;> omega)).symm
      · simp only [if_true]
        exact (cmp_lt (by unfold sg; cases t <;> simp only [if_true, if_false, Bool.false_eq_true] <;> omega)).symm
  · obtain ⟨m, i, h1, hi, hV⟩ := rd_V s a (by omega)
    by_cases cb : b = 2047 * 2 ^ 52
    · subst cb
      rw [rd_inf, h1]
      simp only [Datum.order, Option.some.injEq]
      cases t
      · simp only [Bool.false_eq_true, if_false]
        exact (cmp_lt (by unfold sg; cases s <;> simp only [if_true, if_false, Bool.false_eq_true] <;> omega)).symm
      · simp only [if_true]
        exact (cmp_gt (by unfold sg; cases s <;> simp only [if_true, if_false, Bool.false_eq_true] <;> omega)).symm
    · obtain ⟨n, j, h2, hj, hV2⟩ := rd_V t b (by omega)
      rw [h1, h2]
      simp only [Datum.order, Option.some.injEq, signed_V]
      refine sg_cmp s t a b _ _ (min i j + 1074).toNat ?_ ?_
      · rw [hV, Nat.mul_assoc, ← Nat.pow_add]
        congr 2; omega
      · rw [hV2, Nat.mul_assoc, ← Nat.pow_add]
        congr 2; omega

theorem order_nan_left {a b : Nat} (ha : 2047 * 2 ^ 52 < a % 2 ^ 63) : double.order a b = none := by
  unfold Format.order
  rw [read_eq a, rd_nan _ ha]; rfl
theorem order_nan_right {a b : Nat} (hb : 2047 * 2 ^ 52 < b % 2 ^ 63) : double.order a b = none := by
  unfold Format.order
  rw [read_eq b, rd_nan _ hb]
  cases double.read a <;> rfl

/-- Two words without the sign. -/
theorem order_pos {a b : Nat} (ha : a ≤ 2047 * 2 ^ 52) (hb : b ≤ 2047 * 2 ^ 52) : double.order a b = some (compare (a : Int) b) := by
  have := order_word false false ha hb
  rwa [word_false, word_false] at this

/-! ### Toward zero, and down, of what is not negative -/
theorem cut_zero (neg : Bool) (n d : Nat) : Toward.zero.cut neg n d = n / 2 ^ d := by
  unfold Toward.cut
  simp only [Nat.shiftLeft_eq, Nat.one_mul, Bool.toNat_false, Nat.add_zero]
  by_cases hd : d ≤ n.log2 + 2
  · rw [show min d (n.log2 + 2) = d from by omega]
  · rw [show min d (n.log2 + 2) = n.log2 + 2 from by omega]
    have h2 : n < 2 ^ (n.log2 + 1) := Nat.lt_log2_self
    have h3 : (2 : Nat) ^ (n.log2 + 1) ≤ 2 ^ (n.log2 + 2) := Nat.pow_le_pow_right (by omega) (by omega)
    have h4 : (2 : Nat) ^ (n.log2 + 2) ≤ 2 ^ d := Nat.pow_le_pow_right (by omega) (by omega)
    rw [Nat.div_eq_of_lt (by omega), Nat.div_eq_of_lt (by omega)]
theorem cut_down_pos (n d : Nat) : Toward.down.cut false n d = n / 2 ^ d := by
  rw [← cut_zero false n d]
  unfold Toward.cut
  simp

/-- The whole part of m * 2^e. -/
def wholeOf (m : Nat) (e : Int) : Nat := m * 2 ^ e.toNat / 2 ^ (-e).toNat
/-- m * 2^e is a whole number. -/
abbrev Whole (m : Nat) (e : Int) : Prop := 0 ≤ e ∨ m % 2 ^ (-e).toNat = 0

theorem whole_same {m : Nat} {e : Int} (h : Whole m e) : Same m e (wholeOf m e) 0 := by
  unfold Whole at h
  by_cases c : 0 ≤ e
  · refine (same_of (k := e.toNat) ?_ (by omega)).symm
    unfold wholeOf; rw [show (-e).toNat = 0 from by omega]; simp
  · have h' : m % 2 ^ (-e).toNat = 0 := by omega
    refine same_of (k := (-e).toNat) ?_ (by omega)
    unfold wholeOf; rw [show e.toNat = 0 from by omega, Nat.pow_zero, Nat.mul_one]
    exact (Nat.div_mul_cancel (Nat.dvd_of_mod_eq_zero h')).symm

theorem floor_read {a : Nat} {m : Nat} {e : Int} (h : double.read a = .number false m e) : double.write ((double.read a).integral .down) = double.nearest false (wholeOf m e) 0 := by
  rw [h]
  simp only [Datum.integral, cut_down_pos, Nat.shiftLeft_eq, Format.write]
  rfl

theorem toInt_read {a : Nat} {s : Bool} {m : Nat} {e : Int} (h : double.read a = .number s m e) : (double.read a).toInt .zero = some (sg s (wholeOf m e)) := by
  rw [h]
  simp only [Datum.toInt, Datum.integral, cut_zero, Nat.shiftLeft_eq, signed_V, Nat.pow_zero, Nat.mul_one]
  rfl

end Fl
end Go.Proofs.Qxb6500293aGreatRR
