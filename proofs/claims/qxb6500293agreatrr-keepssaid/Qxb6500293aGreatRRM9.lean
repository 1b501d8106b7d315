import Derived.Test.Qxb6500293aGreatRRM3
namespace Go.Proofs.Qxb6500293aGreatRR
open Go.RowKit
open Ieee (double Datum)
set_option linter.unusedVariables false
attribute [local go_sem] run_frombits run_tobits run_negf

/-- The six comparisons. -/
def cmpW (op : Int) (o : Option Ordering) : Bool :=
  if op = 1 then o == some .eq else if op = 2 then o != some .eq else if op = 3 then o == some .lt else if op = 4 then o == some .lt || o == some .eq
  else if op = 5 then o == some .gt else if op = 6 then o == some .gt || o == some .eq else false

set_option maxHeartbeats 6400000 in
theorem cmp_R (p : Value) (op : Int) (a b : Nat) (w : World) :
    Calls Tryz.prog 64 #[p, .int .i64 op, .int .u64 a, .int .u64 b] w fun e w' => e = .returned (.bool (cmpW op (double.order a b))) ∧ w' = w := by
  have hv : FloatKind.f64.format.order a b = double.order a b := rfl
  generalize double.order a b = o at *
  rcases (by omega : op = 1 ∨ op = 2 ∨ op = 3 ∨ op = 4 ∨ op = 5 ∨ op = 6 ∨ (op ≠ 1 ∧ op ≠ 2 ∧ op ≠ 3 ∧ op ≠ 4 ∧ op ≠ 5 ∧ op ≠ 6)) with rfl | rfl | rfl | rfl | rfl | rfl | ⟨h1, h2, h3, h4, h5, h6⟩
  case inr.inr.inr.inr.inr.inr =>
    have HV : Hid (cmpW op o = false) := by
      show _ = _
      unfold cmpW
      rw [if_neg h1, if_neg h2, if_neg h3, if_neg h4, if_neg h5, if_neg h6]
    go_enter Tryz.func64, Tryz.ntmps64
    go_wp2
    go_ret
    rw [HV.out]; exact ⟨rfl, rfl⟩
  all_goals
    go_enter Tryz.func64, Tryz.ntmps64
    go_wp2
    go_ret
    exact ⟨rfl, rfl⟩

/-- A word's place in the order. -/
def key (a : Nat) : Nat := if neg a then 18446744073709551615 - a else a + 9223372036854775808
theorem key_lt {a : Nat} (h : a < 18446744073709551616) : key a < 18446744073709551616 := by
  unfold key neg
  by_cases c : 2 ^ 63 ≤ a
  · rw [if_pos (by simpa using c)]; omega
  · rw [if_neg (by simpa using c)]; omega
def lessW (a b : Nat) : Bool := if zerB a && zerB b then false else decide (key a < key b)
theorem order_of {a b : Nat} (ha : a < 18446744073709551616) (hb : b < 18446744073709551616) (na : a % 2 ^ 63 ≤ 2047 * 2 ^ 52) (nb : b % 2 ^ 63 ≤ 2047 * 2 ^ 52) :
    double.order a b = some (compare (Fl.sg (neg a) (a % 2 ^ 63)) (Fl.sg (neg b) (b % 2 ^ 63))) := by
  have := Fl.order_word (neg a) (neg b) na nb
  rwa [← word_neg ha, ← word_neg hb] at this
theorem cmp_int (x y : Int) : (x < y ∧ compare x y = .lt) ∨ (x = y ∧ compare x y = .eq) ∨ (y < x ∧ compare x y = .gt) := by
  rcases Int.lt_trichotomy x y with h | h | h
  · exact .inl ⟨h, Fl.cmp_lt h⟩
  · subst h; exact .inr (.inl ⟨rfl, by simp⟩)
  · refine .inr (.inr ⟨h, ?_⟩)
    have h1 : ¬ x < y := by omega
    have h2 : ¬ x = y := by omega
    simp [compare, compareOfLessAndEq, h1, h2]
/-- The order of two words that are no NaNs, as the model tells it. -/
theorem order_cases {a b : Nat} (ha : a < 18446744073709551616) (hb : b < 18446744073709551616) (na : a % 2 ^ 63 ≤ 2047 * 2 ^ 52) (nb : b % 2 ^ 63 ≤ 2047 * 2 ^ 52) :
    (double.order a b = some .lt ∧ lessW a b = true ∧ lessW b a = false ∧ ((zerB a && zerB b) = false ∧ a ≠ b)) ∨
    (double.order a b = some .eq ∧ lessW a b = false ∧ lessW b a = false ∧ ((zerB a && zerB b) = true ∨ a = b)) ∨
    (double.order a b = some .gt ∧ lessW a b = false ∧ lessW b a = true ∧ ((zerB a && zerB b) = false ∧ a ≠ b)) := by
  rw [order_of ha hb na nb]
  have hk : ∀ x, x < 18446744073709551616 → (neg x = true ∧ 2 ^ 63 ≤ x ∧ key x = 18446744073709551615 - x ∧ Fl.sg (neg x) (x % 2 ^ 63) = -((x % 2 ^ 63 : Nat) : Int)) ∨ (neg x = false ∧ x < 2 ^ 63 ∧ key x = x + 9223372036854775808 ∧ Fl.sg (neg x) (x % 2 ^ 63) = ((x % 2 ^ 63 : Nat) : Int)) := by
    intro x hx
    by_cases c : 2 ^ 63 ≤ x
    · left
      have e : neg x = true := decide_eq_true c
      refine ⟨e, c, by unfold key; rw [e]; rfl, by rw [e]; rfl⟩
    · right
      have e : neg x = false := decide_eq_false c
      refine ⟨e, by omega, by unfold key; rw [e]; rfl, by rw [e]; rfl⟩
  have hz : (zerB a && zerB b) = decide (a % 2 ^ 63 = 0 ∧ b % 2 ^ 63 = 0) := by
    unfold zerB; rw [Bool.decide_and]
  have hz' : (zerB b && zerB a) = decide (a % 2 ^ 63 = 0 ∧ b % 2 ^ 63 = 0) := by rw [Bool.and_comm, hz]
  unfold lessW
  rw [hz, hz']
  have ka := hk a ha
  have kb := hk b hb
  by_cases z : a % 2 ^ 63 = 0 ∧ b % 2 ^ 63 = 0
  · rw [decide_eq_true z]
    right; left
    refine ⟨?_, rfl, rfl, .inl rfl⟩
    have : Fl.sg (neg a) (a % 2 ^ 63) = Fl.sg (neg b) (b % 2 ^ 63) := by
      rcases ka with ⟨_, _, _, e⟩ | ⟨_, _, _, e⟩ <;> rcases kb with ⟨_, _, _, f⟩ | ⟨_, _, _, f⟩ <;> rw [e, f] <;> omega
    rw [this]; simp
  · rw [decide_eq_false z]
    simp only [Bool.false_eq_true, if_false]
    rcases cmp_int (Fl.sg (neg a) (a % 2 ^ 63)) (Fl.sg (neg b) (b % 2 ^ 63)) with ⟨h, g⟩ | ⟨h, g⟩ | ⟨h, g⟩
    · left
      have hk : key a < key b := by
        rcases ka with ⟨_, _, k1, e⟩ | ⟨_, _, k1, e⟩ <;> rcases kb with ⟨_, _, k2, f⟩ | ⟨_, _, k2, f⟩ <;> rw [e, f] at h <;> rw [k1, k2] <;> omega
      exact ⟨by rw [g], decide_eq_true hk, decide_eq_false (by omega), trivial, by intro e; subst e; omega⟩
    · right; left
      have he : a = b := by
        rcases ka with ⟨_, _, k1, e⟩ | ⟨_, _, k1, e⟩ <;> rcases kb with ⟨_, _, k2, f⟩ | ⟨_, _, k2, f⟩ <;> rw [e, f] at h <;> omega
      subst he
      exact ⟨by rw [g], decide_eq_false (by omega), decide_eq_false (by omega), .inr rfl⟩
    · right; right
      have hk : key b < key a := by
        rcases ka with ⟨_, _, k1, e⟩ | ⟨_, _, k1, e⟩ <;> rcases kb with ⟨_, _, k2, f⟩ | ⟨_, _, k2, f⟩ <;> rw [e, f] at h <;> rw [k1, k2] <;> omega
      exact ⟨by rw [g], decide_eq_false (by omega), decide_eq_true hk, trivial, by intro e; subst e; omega⟩

theorem or_hi {a : Nat} (h : a < 9223372036854775808) : bits .or .u64 (a : Int) 9223372036854775808 = ((a + 9223372036854775808 : Nat) : Int) := by
  have := u64_or_nat a 9223372036854775808 (by omega) (by omega)
  rw [Nat.or_comm, nat_join 63 9223372036854775808 a (by decide) (by omega), Nat.add_comm] at this
  exact this
theorem or_any (a : Nat) (ha : a < 18446744073709551616) : ∃ z : Nat, bits .or .u64 (a : Int) 9223372036854775808 = (z : Int) ∧ z < 18446744073709551616 :=
  ⟨_, u64_or_nat a 9223372036854775808 ha (by omega), Nat.or_lt_two_pow (n := 64) ha (by decide)⟩

theorem not_any (a : Nat) (ha : a < 18446744073709551616) : ∃ z : Nat, bits .xor .u64 IntKind.u64.max (a : Int) = (z : Int) ∧ z < 18446744073709551616 ∧ z + a = 18446744073709551615 := by
  have h := u64_xor_nat 18446744073709551615 a (by omega) ha
  refine ⟨18446744073709551615 - a, ?_, by omega, by omega⟩
  have e : IntKind.u64.max = ((18446744073709551615 : Nat) : Int) := by decide
  rw [e, h]
  congr 1
  have e2 : 18446744073709551615 - a = 2 ^ 64 - (a + 1) := by omega
  rw [e2]
  apply Nat.eq_of_testBit_eq
  intro i
  rw [Nat.testBit_xor, Nat.testBit_two_pow_sub_succ ha, show 18446744073709551615 = 2 ^ 64 - 1 from rfl, Nat.testBit_two_pow_sub_one]
  by_cases c : i < 64
  · simp [c]
  · have : a.testBit i = false := Nat.testBit_lt_two_pow (Nat.lt_of_lt_of_le ha (Nat.pow_le_pow_right (n := 2) (i := 64) (j := i) (by omega) (by omega)))
    simp [c, this]

end Go.Proofs.Qxb6500293aGreatRR
