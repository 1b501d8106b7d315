import Derived.Test.Qxb6500293aGreatRRM11
import Derived.Test.Qxb6500293aGreatRRW2
namespace Go.Proofs.Qxb6500293aGreatRR
open Go.RowKit
open Ieee (double Datum)
set_option linter.unusedVariables false
attribute [local go_sem] run_frombits run_tobits

/-- A word that is a whole number of magnitude at most 2^53. -/
abbrev isWh (x : Nat) : Prop := x % 2 ^ 63 ≤ w53 ∧ Fl.Whole (magM (x % 2 ^ 63)) (magE (x % 2 ^ 63))
def whV (x : Nat) : Int := Fl.sg (neg x) (Fl.wholeOf (magM (x % 2 ^ 63)) (magE (x % 2 ^ 63)))

theorem w53_eq : w53 = 4845873199050653696 := rfl
theorem mag53 : magM 4845873199050653696 = 4503599627370496 ∧ magE 4845873199050653696 = 1 := by decide +kernel
theorem wholeOf_le53 {r : Nat} (h : r ≤ w53) : Fl.wholeOf (magM r) (magE r) ≤ 9007199254740992 := by
  rcases Nat.lt_or_ge r w53 with c | c
  · have := wholeOf_le c; have := magM_lt r; omega
  · have e : r = 4845873199050653696 := by rw [w53_eq] at h c; omega
    subst e
    rw [mag53.1, mag53.2]; decide +kernel
theorem back_rung {r : Nat} (h : r ≤ w53) (hw : Fl.Whole (magM r) (magE r)) : double.nearest false (Fl.wholeOf (magM r) (magE r)) 0 = r := by
  have hr : r < 2047 * 2 ^ 52 := by rw [w53_eq] at h; omega
  rw [← floor_mag hr]; exact floor_whole hr hw
theorem back_not {r : Nat} (h : r ≤ w53) (hw : ¬ Fl.Whole (magM r) (magE r)) : double.nearest false (Fl.wholeOf (magM r) (magE r)) 0 ≠ r := by
  have hr : r < 2047 * 2 ^ 52 := by rw [w53_eq] at h; omega
  rcases Nat.lt_or_ge r w53 with c | c
  · rw [← floor_mag hr]; exact floor_not_whole c hw
  · have e : r = 4845873199050653696 := by rw [w53_eq] at h c; omega
    subst e
    exact absurd (.inl (by rw [mag53.2]; omega)) hw
theorem nearest_word_of (s : Bool) (V : Nat) (e : Int) : double.nearest s V e = double.word s (double.nearest false V e) := by
  cases s
  · rw [Fl.word_false]
  · rw [Fl.word_true, nearest_true]
/-- The int, made a float again, against the word it came from. -/
theorem back_order {x : Nat} (hx : x < 18446744073709551616) (h : x % 2 ^ 63 ≤ w53) :
    double.order (double.nearest (decide (whV x < 0)) (whV x).natAbs 0) x = some (compare (Fl.sg (neg x) (double.nearest false (Fl.wholeOf (magM (x % 2 ^ 63)) (magE (x % 2 ^ 63))) 0)) (Fl.sg (neg x) (x % 2 ^ 63))) := by
  have hr : x % 2 ^ 63 < 2047 * 2 ^ 52 := by rw [w53_eq] at h; omega
  unfold whV
  generalize hV : Fl.wholeOf (magM (x % 2 ^ 63)) (magE (x % 2 ^ 63)) = V
  have hle := Fl.nearest_false_le V 0
  rw [nearest_word_of]
  have hab : (Fl.sg (neg x) V).natAbs = V := by cases neg x <;> simp [Fl.sg]
  rw [hab]
  have := Fl.order_word (decide (Fl.sg (neg x) V < 0)) (neg x) hle (Nat.le_of_lt hr)
  rw [← word_neg hx] at this
  rw [this]
  congr 2
  by_cases h0 : V = 0
  · subst h0
    rw [Fl.nearest_zero, Fl.word_false]
    cases neg x <;> rfl
  · congr 1
    cases neg x
    · simp [Fl.sg]
    · simp [Fl.sg]; omega
theorem toIntVal {x : Nat} (hx : x < 18446744073709551616) (h : x % 2 ^ 63 ≤ w53) : floatToIntVal .f64 x .i64 = some (whV x) := by
  have hr : x % 2 ^ 63 < 2047 * 2 ^ 52 := by rw [w53_eq] at h; omega
  have h1 : (FloatKind.f64.decode x).toInt .zero = some (whV x) := Fl.toInt_read (read_fin hx hr)
  have hle := wholeOf_le53 h
  unfold floatToIntVal
  rw [h1]
  have hmin : IntKind.i64.min = -9223372036854775808 := by decide +kernel
  have hmax : IntKind.i64.max = 9223372036854775807 := by decide +kernel
  simp only [hmin, hmax]
  rw [if_pos]
  unfold whV
  generalize Fl.wholeOf (magM (x % 2 ^ 63)) (magE (x % 2 ^ 63)) = V at *
  cases neg x
  · simp only [Fl.sg]; constructor <;> simp <;> omega
  · simp only [Fl.sg]; constructor <;> simp <;> omega

def toIntV (x : Nat) : Int := if isWh x then whV x else 0
def toIntB (x : Nat) : Bool := decide (isWh x)
theorem ret_ib {a a' : Int} {b b' : Bool} (h1 : a = a') (h2 : b = b') : Ending.returned (.tuple #[.int .i64 a, .bool b]) = .returned (.tuple #[.int .i64 a', .bool b']) := by rw [h1, h2]
theorem fmt_order (x y : Nat) : FloatKind.f64.format.order x y = double.order x y := rfl
theorem word53 : double.word true 4845873199050653696 = 14069245235905429504 := by rw [Fl.word_true]
/-- The range test: the two orders. -/
theorem range_in {x : Nat} (hx : x < 18446744073709551616) (h : x % 2 ^ 63 ≤ w53) :
    (double.order x 14069245235905429504 = some .gt ∨ double.order x 14069245235905429504 = some .eq) ∧ (double.order x 4845873199050653696 = some .lt ∨ double.order x 4845873199050653696 = some .eq) := by
  rw [w53_eq] at h
  have h1 := Fl.order_word (neg x) true (show x % 2 ^ 63 ≤ 2047 * 2 ^ 52 by omega) (show 4845873199050653696 ≤ 2047 * 2 ^ 52 by omega)
  have h2 := Fl.order_word (neg x) false (show x % 2 ^ 63 ≤ 2047 * 2 ^ 52 by omega) (show 4845873199050653696 ≤ 2047 * 2 ^ 52 by omega)
  rw [← word_neg hx, word53] at h1
  rw [← word_neg hx, Fl.word_false] at h2
  rw [h1, h2]
  have e1 : Fl.sg true 4845873199050653696 = -4845873199050653696 := rfl
  have e2 : Fl.sg false 4845873199050653696 = 4845873199050653696 := rfl
  have b : -4845873199050653696 ≤ Fl.sg (neg x) (x % 2 ^ 63) ∧ Fl.sg (neg x) (x % 2 ^ 63) ≤ 4845873199050653696 := by
    generalize x % 2 ^ 63 = r at *
    cases neg x <;> simp only [Fl.sg] <;> constructor <;> simp <;> omega
  constructor
  · rcases cmp_int (Fl.sg (neg x) (x % 2 ^ 63)) (Fl.sg true 4845873199050653696) with ⟨h, g⟩ | ⟨h, g⟩ | ⟨h, g⟩
    · omega
    · rw [g]; exact .inr rfl
    · rw [g]; exact .inl rfl
  · rcases cmp_int (Fl.sg (neg x) (x % 2 ^ 63)) (Fl.sg false 4845873199050653696) with ⟨h, g⟩ | ⟨h, g⟩ | ⟨h, g⟩
    · rw [g]; exact .inl rfl
    · rw [g]; exact .inr rfl
    · omega
theorem range_out {x : Nat} (hx : x < 18446744073709551616) (h : ¬ x % 2 ^ 63 ≤ w53) :
    (double.order x 14069245235905429504 = some .lt ∨ double.order x 14069245235905429504 = none) ∨ (double.order x 14069245235905429504 = some .gt ∧ double.order x 4845873199050653696 = some .gt) := by
  rw [w53_eq] at h
  by_cases c : 2047 * 2 ^ 52 < x % 2 ^ 63
  · left; right; exact Fl.order_nan_left c
  have h1 := Fl.order_word (neg x) true (show x % 2 ^ 63 ≤ 2047 * 2 ^ 52 by omega) (show 4845873199050653696 ≤ 2047 * 2 ^ 52 by omega)
  have h2 := Fl.order_word (neg x) false (show x % 2 ^ 63 ≤ 2047 * 2 ^ 52 by omega) (show 4845873199050653696 ≤ 2047 * 2 ^ 52 by omega)
  rw [← word_neg hx, word53] at h1
  rw [← word_neg hx, Fl.word_false] at h2
  rw [h1, h2]
  have e1 : Fl.sg true 4845873199050653696 = -4845873199050653696 := rfl
  have e2 : Fl.sg false 4845873199050653696 = 4845873199050653696 := rfl
  rw [e1, e2]
  generalize x % 2 ^ 63 = r at *
  cases neg x
  · right
    have e3 : Fl.sg false r = (r : Int) := rfl
    rw [e3, Fl.cmp_gt (by omega), Fl.cmp_gt (by omega)]; exact ⟨rfl, rfl⟩
  · left; left
    have e3 : Fl.sg true r = -(r : Int) := rfl
    rw [e3, Fl.cmp_lt (by omega)]

set_option maxHeartbeats 3200000 in
theorem toInt_R (p : Value) (x : Nat) (w : World) (hx : x < 18446744073709551616) :
    Calls Tryz.prog 65 #[p, .int .u64 x] w fun e w' => e = .returned (.tuple #[.int .i64 (toIntV x), .bool (toIntB x)]) ∧ w' = w := by
  by_cases h : x % 2 ^ 63 ≤ w53
  · have hti := toIntVal hx h
    have q5 := fun w => run_convert_float_int (P := Tryz.prog) w 141 3 .f64 .i64 x (whV x) (by kernel_rfl) Tryz.underlying3 hti
    have hbo := back_order hx h
    have hr := range_in hx h
    have hvl : -9007199254740992 ≤ whV x ∧ whV x ≤ 9007199254740992 := by
      have := wholeOf_le53 h
      unfold whV
      generalize Fl.wholeOf (magM (x % 2 ^ 63)) (magE (x % 2 ^ 63)) = V at *
      cases neg x <;> simp only [Fl.sg] <;> constructor <;> simp <;> omega
    rw [← floatOfInt_eq] at hbo
    by_cases hw : Fl.Whole (magM (x % 2 ^ 63)) (magE (x % 2 ^ 63))
    · have HV : Hid (toIntV x = whV x ∧ toIntB x = true) := by
        show _ ∧ _
        exact ⟨if_pos ⟨h, hw⟩, decide_eq_true ⟨h, hw⟩⟩
      rw [back_rung h hw, Fl.cmp_eq rfl] at hbo
      generalize whV x = V at *
      obtain ⟨hv1, hv2⟩ := hvl
      clear hti h hw
      rcases hr with ⟨o1 | o1, o2 | o2⟩
      all_goals
        rw [← fmt_order] at o1 o2 hbo
        go_enter Tryz.func65, Tryz.ntmps65
        go_wp2
        go_ret2
        exact ⟨ret_ib HV.out.1.symm HV.out.2.symm, rfl⟩
    · have HV : Hid (toIntV x = 0 ∧ toIntB x = false) := by
        show _ ∧ _
        exact ⟨if_neg fun h => hw h.2, decide_eq_false fun h => hw h.2⟩
      have hne : compare (Fl.sg (neg x) (double.nearest false (Fl.wholeOf (magM (x % 2 ^ 63)) (magE (x % 2 ^ 63))) 0)) (Fl.sg (neg x) (x % 2 ^ 63)) = .lt ∨ compare (Fl.sg (neg x) (double.nearest false (Fl.wholeOf (magM (x % 2 ^ 63)) (magE (x % 2 ^ 63))) 0)) (Fl.sg (neg x) (x % 2 ^ 63)) = .gt := by
        have hn := back_not h hw
        rcases cmp_int (Fl.sg (neg x) (double.nearest false (Fl.wholeOf (magM (x % 2 ^ 63)) (magE (x % 2 ^ 63))) 0)) (Fl.sg (neg x) (x % 2 ^ 63)) with ⟨_, g⟩ | ⟨e, _⟩ | ⟨_, g⟩
        · exact .inl g
        · exfalso; apply hn
          revert e
          generalize double.nearest false (Fl.wholeOf (magM (x % 2 ^ 63)) (magE (x % 2 ^ 63))) 0 = A
          generalize x % 2 ^ 63 = B
          cases neg x <;> simp only [Fl.sg] <;> intro e <;> simp at e <;> omega
        · exact .inr g
      generalize compare (Fl.sg (neg x) (double.nearest false (Fl.wholeOf (magM (x % 2 ^ 63)) (magE (x % 2 ^ 63))) 0)) (Fl.sg (neg x) (x % 2 ^ 63)) = o at *
      generalize whV x = V at *
      obtain ⟨hv1, hv2⟩ := hvl
      clear hti h hw
      rcases hne with rfl | rfl <;> rcases hr with ⟨o1 | o1, o2 | o2⟩
      all_goals
        rw [← fmt_order] at o1 o2 hbo
        go_enter Tryz.func65, Tryz.ntmps65
        go_wp2
        go_ret2
        exact ⟨ret_ib HV.out.1.symm HV.out.2.symm, rfl⟩
  · have HV : Hid (toIntV x = 0 ∧ toIntB x = false) := by
      show _ ∧ _
      exact ⟨if_neg fun k => h k.1, decide_eq_false fun k => h k.1⟩
    have hr := range_out hx h
    clear h
    rcases hr with (o1 | o1) | ⟨o1, o2⟩
    · rw [← fmt_order] at o1
      go_enter Tryz.func65, Tryz.ntmps65
      go_wp2
      go_ret2
      exact ⟨ret_ib HV.out.1.symm HV.out.2.symm, rfl⟩
    · rw [← fmt_order] at o1
      go_enter Tryz.func65, Tryz.ntmps65
      go_wp2
      go_ret2
      exact ⟨ret_ib HV.out.1.symm HV.out.2.symm, rfl⟩
    · rw [← fmt_order] at o1 o2
      go_enter Tryz.func65, Tryz.ntmps65
      go_wp2
      go_ret2
      exact ⟨ret_ib HV.out.1.symm HV.out.2.symm, rfl⟩
end Go.Proofs.Qxb6500293aGreatRR
