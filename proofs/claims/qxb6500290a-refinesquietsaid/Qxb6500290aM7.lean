import Derived.Test.Qxb6500290aM6
import Derived.Test.Qxb6500290aSf6
namespace Go.Proofs.Qxb6500290a
open Go.RowKit
open Ieee (double)
set_option linter.unusedVariables false

theorem add_int (A B : Int) (a b : Nat) (w : World) (hA : A = (a : Int)) (hB : B = (b : Int)) (ha : a < 18446744073709551616) (hb : b < 18446744073709551616) :
    Calls Try.prog 56 #[.int .u64 A, .int .u64 B] w fun e w' => e = .returned (.int .u64 (addW a b : Nat)) ∧ w' = w := by
  subst hA; subst hB; exact add_any a b w ha hb

set_option maxHeartbeats 3200000 in
theorem arith_M (p : Value) (op : Int) (a b : Nat) (w : World) (ha : a < 18446744073709551616) (hb : b < 18446744073709551616) :
    Calls Try.prog 44 #[p, .int .i64 op, .int .u64 a, .int .u64 b] w fun e w' => e = .returned (.int .u64 (arithW op a b : Nat)) ∧ w' = w := by
  have hf := u64_xor_sign b hb
  have hfl := flipS_lt hb
  have hD := divW_lt a b
  rcases (by omega : op = 1 ∨ op = 2 ∨ op = 3 ∨ op = 4 ∨ op = 5 ∨ op = 6 ∨ (op ≠ 1 ∧ op ≠ 2 ∧ op ≠ 3 ∧ op ≠ 4 ∧ op ≠ 5 ∧ op ≠ 6)) with rfl | rfl | rfl | rfl | rfl | rfl | ⟨h1, h2, h3, h4, h5, h6⟩
  · have HV : Hid (arithW 1 a b = addW a b) := rfl
    go_enter Try.func44, Try.ntmps44
    go_wp2_with fail
    refine (add_any a b _ ha hb).mono ?_; rintro e w' ⟨rfl, rfl⟩
    go_wp2
    go_ret
    rw [HV.out]; exact ⟨rfl, rfl⟩
  · have HV : Hid (arithW 2 a b = addW a (flipS b)) := rfl
    change bits .xor .u64 (b : Int) 9223372036854775808 = ((flipS b : Nat) : Int) at hf
    generalize flipS b = c at *
    go_enter Try.func44, Try.ntmps44
    go_wp2_with fail
    refine (add_int _ _ a c _ rfl rfl ha hfl).mono ?_; rintro e w' ⟨rfl, rfl⟩
    go_wp2
    go_ret
    rw [HV.out]; exact ⟨rfl, rfl⟩
  · have HV : Hid (arithW 3 a b = mulW a b) := rfl
    go_enter Try.func44, Try.ntmps44
    go_wp2_with fail
    refine (mul_any a b _ ha hb).mono ?_; rintro e w' ⟨rfl, rfl⟩
    go_wp2
    go_ret
    rw [HV.out]; exact ⟨rfl, rfl⟩
  · have HV : Hid (arithW 4 a b = divW a b) := rfl
    go_enter Try.func44, Try.ntmps44
    go_wp2_with fail
    refine (div_any a b _ ha hb).mono ?_; rintro e w' ⟨rfl, rfl⟩
    go_wp2
    go_ret
    rw [HV.out]; exact ⟨rfl, rfl⟩
  · have HV : Hid (arithW 5 a b = floorW (divW a b)) := rfl
    have C1 := fun w => div_any a b w ha hb
    have C2 := fun w => floor_M (divW a b) w hD
    have l2 := floorW_lt _ hD
    generalize floorW (divW a b) = f at *
    generalize divW a b = d at *
    go_enter Try.func44, Try.ntmps44
    go_wp2_with fail
    refine (C1 _).mono ?_; rintro e w' ⟨rfl, rfl⟩
    go_wp2_with fail
    refine (C2 _).mono ?_; rintro e w' ⟨rfl, rfl⟩
    go_wp2
    go_ret
    rw [HV.out]; exact ⟨rfl, rfl⟩
  · have HV : Hid (arithW 6 a b = addW a (flipS (mulW (floorW (divW a b)) b))) := rfl
    have C1 := fun w => div_any a b w ha hb
    have C2 := fun w => floor_M (divW a b) w hD
    have l2 := floorW_lt _ hD
    have C3 := fun w => mul_any (floorW (divW a b)) b w l2 hb
    have l3 := mulW_lt (floorW (divW a b)) b
    have hf := u64_xor_sign _ l3
    have l4 := flipS_lt l3
    change bits .xor .u64 _ 9223372036854775808 = ((flipS (mulW (floorW (divW a b)) b) : Nat) : Int) at hf
    generalize flipS (mulW (floorW (divW a b)) b) = g at *
    generalize mulW (floorW (divW a b)) b = m at *
    generalize floorW (divW a b) = f at *
    generalize divW a b = d at *
    go_enter Try.func44, Try.ntmps44
    go_wp2_with fail
    refine (C1 _).mono ?_; rintro e w' ⟨rfl, rfl⟩
    go_wp2_with fail
    refine (C2 _).mono ?_; rintro e w' ⟨rfl, rfl⟩
    go_wp2_with fail
    refine (C3 _).mono ?_; rintro e w' ⟨rfl, rfl⟩
    go_wp2_with fail
    refine (add_int _ _ a g _ rfl rfl ha l4).mono ?_; rintro e w' ⟨rfl, rfl⟩
    go_wp2
    go_ret
    rw [HV.out]; exact ⟨rfl, rfl⟩
  · have HV : Hid (arithW op a b = nanV) := by
      show _ = _
      unfold arithW
      rw [if_neg h1, if_neg h2, if_neg h3, if_neg h4, if_neg h5, if_neg h6]
    go_enter Try.func44, Try.ntmps44
    go_wp2
    go_ret
    rw [HV.out]; exact ⟨rfl, rfl⟩

set_option maxHeartbeats 400000 in
theorem neg_M (p : Value) (a : Nat) (w : World) (ha : a < 18446744073709551616) :
    Calls Try.prog 45 #[p, .int .u64 a] w fun e w' => e = .returned (.int .u64 (negW a : Nat)) ∧ w' = w := by
  have N1 := fun w => isNaN_any a w ha
  by_cases cn : 2047 * 2 ^ 52 < a % 2 ^ 63
  · have HV : Hid (negW a = nanV) := if_pos cn
    rw [show nanB a = true from decide_eq_true cn] at N1
    clear cn
    go_enter Try.func45, Try.ntmps45
    go_wp2_with fail
    refine (N1 _).mono ?_; rintro e w' ⟨rfl, rfl⟩
    go_wp2
    go_ret
    rw [HV.out]; exact ⟨rfl, rfl⟩
  · have HV : Hid (negW a = flipS a) := if_neg cn
    rw [show nanB a = false from decide_eq_false cn] at N1
    have hf := u64_xor_sign a ha
    change bits .xor .u64 (a : Int) 9223372036854775808 = ((flipS a : Nat) : Int) at hf
    generalize flipS a = g at *
    clear cn
    go_enter Try.func45, Try.ntmps45
    go_wp2_with fail
    refine (N1 _).mono ?_; rintro e w' ⟨rfl, rfl⟩
    go_wp2
    go_ret
    rw [HV.out]; exact ⟨rfl, rfl⟩
end Go.Proofs.Qxb6500290a
