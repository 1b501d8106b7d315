import Derived.Test.Qxb6500292aM3
namespace Go.Proofs.Qxb6500292a
open Go.RowKit
open Ieee (double Datum)
set_option linter.unusedVariables false
attribute [local go_sem] run_frombits run_tobits run_negf

/-- The six comparisons. -/
def cmpW (op : Int) (o : Option Ordering) : Bool :=
  if op = 1 then o == some .eq else if op = 2 then o != some .eq else if op = 3 then o == some .lt else if op = 4 then o == some .lt || o == some .eq
  else if op = 5 then o == some .gt else if op = 6 then o == some .gt || o == some .eq else false

set_option maxHeartbeats 6400000 in
theorem cmp_R (p : Value) (op : Int) (a b : Nat) (w : World) :
    Calls Try.prog 56 #[p, .int .i64 op, .int .u64 a, .int .u64 b] w fun e w' => e = .returned (.bool (cmpW op (double.order a b))) ∧ w' = w := by
  have hv : FloatKind.f64.format.order a b = double.order a b := rfl
  generalize double.order a b = o at *
  rcases (by omega : op = 1 ∨ op = 2 ∨ op = 3 ∨ op = 4 ∨ op = 5 ∨ op = 6 ∨ (op ≠ 1 ∧ op ≠ 2 ∧ op ≠ 3 ∧ op ≠ 4 ∧ op ≠ 5 ∧ op ≠ 6)) with rfl | rfl | rfl | rfl | rfl | rfl | ⟨h1, h2, h3, h4, h5, h6⟩
  case inr.inr.inr.inr.inr.inr =>
    have HV : Hid (cmpW op o = false) := by
      show _ = _
      unfold cmpW
      rw [if_neg h1, if_neg h2, if_neg h3, if_neg h4, if_neg h5, if_neg h6]
    go_enter Try.func56, Try.ntmps56
    go_wp2
    go_ret
    rw [HV.out]; exact ⟨rfl, rfl⟩
  all_goals
    go_enter Try.func56, Try.ntmps56
    go_wp2
    go_ret
    exact ⟨rfl, rfl⟩

/-- A word's place in the order. -/
def key (a : Nat) : Nat := if neg a then 18446744073709551615 - a else a + 9223372036854775808
theorem key_lt {a : Nat} (h : a < 18446744073709551616) : key a < 18446744073709551616 := by
  unfold key neg
  by_cases c : 2 ^ 63 ≤ a
  · rw [if_pos (by simpa using c)]; omega
  · rw [if_neg (by simpa using c)]; omega
def lessW (a b : Nat) : Bool := if zerB a && zerB b then false else decide (key a < key b)
theorem order_of {a b : Nat} (ha : a < 18446744073709551616) (hb : b < 18446744073709551616) (na : a % 2 ^ 63 ≤ 2047 * 2 ^ 52) (nb : b % 2 ^ 63 ≤ 2047 * 2 ^ 52) :
    double.order a b = some (compare (Fl.sg (neg a) (a % 2 ^ 63)) (Fl.sg (neg b) (b % 2 ^ 63))) := by
  have := Fl.order_word (neg a) (neg b) na nb
  rwa [← word_neg ha, ← word_neg hb] at this
theorem cmp_int (x y : Int) : (x < y ∧ compare x y = .lt) ∨ (x = y ∧ compare x y = .eq) ∨ (y < x ∧ compare x y = .gt) := by
  rcases Int.lt_trichotomy x y with h | h | h
  · exact .inl ⟨h, Fl.cmp_lt h⟩
  · subst h; exact .inr (.inl ⟨rfl, by simp⟩)
  · refine .inr (.inr ⟨h, ?_⟩)
    have h1 : ¬ x < y := by omega
    have h2 : ¬ x = y := by omega
    simp [compare, compareOfLessAndEq, h1, h2]
/-- The order of two words that are no NaNs, as the model tells it. -/
theorem order_cases {a b : Nat} (ha : a < 18446744073709551616) (hb : b < 18446744073709551616) (na : a % 2 ^ 63 ≤ 2047 * 2 ^ 52) (nb : b % 2 ^ 63 ≤ 2047 * 2 ^ 52) :
    (double.order a b = some .lt ∧ lessW a b = true ∧ lessW b a = false ∧ ((zerB a && zerB b) = false ∧ a ≠ b)) ∨
    (double.order a b = some .eq ∧ lessW a b = false ∧ lessW b a = false ∧ ((zerB a && zerB b) = true ∨ a = b)) ∨
    (double.order a b = some .gt ∧ lessW a b = false ∧ lessW b a = true ∧ ((zerB a && zerB b) = false ∧ a ≠ b)) := by
  rw [order_of ha hb na nb]
  have hk : ∀ x, x < 18446744073709551616 → (neg x = true ∧ 2 ^ 63 ≤ x ∧ key x = 18446744073709551615 - x ∧ Fl.sg (neg x) (x % 2 ^ 63) = -((x % 2 ^ 63 : Nat) : Int)) ∨ (neg x = false ∧ x < 2 ^ 63 ∧ key x = x + 9223372036854775808 ∧ Fl.sg (neg x) (x % 2 ^ 63) = ((x % 2 ^ 63 : Nat) : Int)) := by
    intro x hx
    by_cases c : 2 ^ 63 ≤ x
    · left
      have e : neg x = true := decide_eq_true c
      refine ⟨e, c, by unfold key; rw [e]; rfl, by rw [e]; rfl⟩
    · right
      have e : neg x = false := decide_eq_false c
      refine ⟨e, by omega, by unfold key; rw [e]; rfl, by rw [e]; rfl⟩
  have hz : (zerB a && zerB b) = decide (a % 2 ^ 63 = 0 ∧ b % 2 ^ 63 = 0) := by
    unfold zerB; rw [Bool.decide_and]
  have hz' : (zerB b && zerB a) = decide (a % 2 ^ 63 = 0 ∧ b % 2 ^ 63 = 0) := by rw [Bool.and_comm, hz]
  unfold lessW
  rw [hz, hz']
  have ka := hk a ha
  have kb := hk b hb
  by_cases z : a % 2 ^ 63 = 0 ∧ b % 2 ^ 63 = 0
  · rw [decide_eq_true z]
    right; left
    refine ⟨?_, rfl, rfl, .inl rfl⟩
    have : Fl.sg (neg a) (a % 2 ^ 63) = Fl.sg (neg b) (b % 2 ^ 63) := by
      rcases ka with ⟨_, _, _, e⟩ | ⟨_, _, _, e⟩ <;> rcases kb with ⟨_, _, _, f⟩ | ⟨_, _, _, f⟩ <;> rw [e, f] <;> omega
    rw [this]; simp
  · rw [decide_eq_false z]
    simp only [Bool.false_eq_true, if_false]
    rcases cmp_int (Fl.sg (neg a) (a % 2 ^ 63)) (Fl.sg (neg b) (b % 2 ^ 63)) with ⟨h, g⟩ | ⟨h, g⟩ | ⟨h, g⟩
    · left
      have hk : key a < key b := by
        rcases ka with ⟨_, _, k1, e⟩ | ⟨_, _, k1, e⟩ <;> rcases kb with ⟨_, _, k2, f⟩ | ⟨_, _, k2, f⟩ <;> rw [e, f] at h <;> rw [k1, k2] <;> omega
      exact ⟨by rw [g], decide_eq_true hk, decide_eq_false (by omega), trivial, by intro e; subst e; omega⟩
    · right; left
      have he : a = b := by
        rcases ka with ⟨_, _, k1, e⟩ | ⟨_, _, k1, e⟩ <;> rcases kb with ⟨_, _, k2, f⟩ | ⟨_, _, k2, f⟩ <;> rw [e, f] at h <;> omega
      subst he
      exact ⟨by rw [g], decide_eq_false (by omega), decide_eq_false (by omega), .inr rfl⟩
    · right; right
      have hk : key b < key a := by
        rcases ka with ⟨_, _, k1, e⟩ | ⟨_, _, k1, e⟩ <;> rcases kb with ⟨_, _, k2, f⟩ | ⟨_, _, k2, f⟩ <;> rw [e, f] at h <;> rw [k1, k2] <;> omega
      exact ⟨by rw [g], decide_eq_false (by omega), decide_eq_true hk, trivial, by intro e; subst e; omega⟩

theorem or_hi {a : Nat} (h : a < 9223372036854775808) : bits .or .u64 (a : Int) 9223372036854775808 = ((a + 9223372036854775808 : Nat) : Int) := by
  have := u64_or_nat a 9223372036854775808 (by omega) (by omega)
  rw [Nat.or_comm, nat_join 63 9223372036854775808 a (by decide) (by omega), Nat.add_comm] at this
  exact this
theorem or_any (a : Nat) (ha : a < 18446744073709551616) : ∃ z : Nat, bits .or .u64 (a : Int) 9223372036854775808 = (z : Int) ∧ z < 18446744073709551616 :=
  ⟨_, u64_or_nat a 9223372036854775808 ha (by omega), Nat.or_lt_two_pow (n := 64) ha (by decide)⟩

theorem not_any (a : Nat) (ha : a < 18446744073709551616) : ∃ z : Nat, bits .xor .u64 IntKind.u64.max (a : Int) = (z : Int) ∧ z < 18446744073709551616 ∧ z + a = 18446744073709551615 := by
  have h := u64_xor_nat 18446744073709551615 a (by omega) ha
  refine ⟨18446744073709551615 - a, ?_, by omega, by omega⟩
  have e : IntKind.u64.max = ((18446744073709551615 : Nat) : Int) := by decide
  rw [e, h]
  congr 1
  have e2 : 18446744073709551615 - a = 2 ^ 64 - (a + 1) := by omega
  rw [e2]
  apply Nat.eq_of_testBit_eq
  intro i
  rw [Nat.testBit_xor, Nat.testBit_two_pow_sub_succ ha, show 18446744073709551615 = 2 ^ 64 - 1 from rfl, Nat.testBit_two_pow_sub_one]
  by_cases c : i < 64
  · simp [c]
  · have : a.testBit i = false := Nat.testBit_lt_two_pow (Nat.lt_of_lt_of_le ha (Nat.pow_le_pow_right (n := 2) (i := 64) (j := i) (by omega) (by omega)))
    simp [c, this]

set_option maxHeartbeats 3200000 in
theorem less_M (a b : Nat) (w : World) (ha : a < 18446744073709551616) (hb : b < 18446744073709551616) :
    Calls Try.prog 76 #[.int .u64 a, .int .u64 b] w fun e w' => e = .returned (.bool (lessW a b)) ∧ w' = w := by
  have Z0 := fun w => bothZero_any a b w ha hb
  cases hz : (zerB a && zerB b)
  case true =>
    have HV : Hid (lessW a b = false) := by show _ = _; unfold lessW; rw [hz]; rfl
    rw [hz] at Z0
    go_enter Try.func76, Try.ntmps76
    go_wp2_with fail
    refine (Z0 _).mono ?_; rintro e w' ⟨rfl, rfl⟩
    go_wp2
    go_ret
    rw [HV.out]; exact ⟨rfl, rfl⟩
  rw [hz] at Z0
  have HV : Hid (lessW a b = decide (key a < key b)) := by show _ = _; unfold lessW; rw [hz]; rfl
  have sa := and_sg a ha
  have sb := and_sg b hb
  obtain ⟨z1, o1, l1⟩ := or_any a ha
  obtain ⟨z2, o2, l2⟩ := or_any b hb
  obtain ⟨y1, x1, m1, t1⟩ := not_any a ha
  obtain ⟨y2, x2, m2, t2⟩ := not_any b hb
  have ka : neg a = false → z1 = key a := by
    intro e
    have : a < 9223372036854775808 := by have := of_decide_eq_false e; omega
    rw [or_hi this] at o1
    unfold key; rw [e, if_neg (by decide)]; omega
  have kb : neg b = false → z2 = key b := by
    intro e
    have : b < 9223372036854775808 := by have := of_decide_eq_false e; omega
    rw [or_hi this] at o2
    unfold key; rw [e, if_neg (by decide)]; omega
  have ma : neg a = true → key a = y1 := fun e => by unfold key; rw [e, if_pos rfl]; omega
  have mb : neg b = true → key b = y2 := fun e => by unfold key; rw [e, if_pos rfl]; omega
  cases na : neg a <;> cases nb : neg b
  all_goals
    rw [na] at sa
    rw [nb] at sb
    first | rw [show sgW false = 0 from rfl] at sa | rw [show sgW true = 9223372036854775808 from rfl] at sa
    first | rw [show sgW false = 0 from rfl] at sb | rw [show sgW true = 9223372036854775808 from rfl] at sb
    have ka : Hid (neg a = false → z1 = key a) := ka
    have kb : Hid (neg b = false → z2 = key b) := kb
    have ma : Hid (neg a = true → key a = y1) := ma
    have mb : Hid (neg b = true → key b = y2) := mb
    have na : Hid (neg a = _) := na
    have nb : Hid (neg b = _) := nb
    clear t1 t2
    go_enter Try.func76, Try.ntmps76
    go_wp2_with fail
    refine (Z0 _).mono ?_; rintro e w' ⟨rfl, rfl⟩
    go_wp2
    go_ret
    first | have k1 := ka.out na.out | have k1 := ma.out na.out
    first | have k2 := kb.out nb.out | have k2 := mb.out nb.out
    rw [HV.out]
    exact ⟨ret_bool (decide_eq_decide.2 (by omega)), rfl⟩
end Go.Proofs.Qxb6500292a
