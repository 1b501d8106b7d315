import Derived.Test.Qxb6500290aM5
import Derived.Test.Qxb6500290aSf5
namespace Go.Proofs.Qxb6500290a
open Go.RowKit
open Ieee (double)
set_option linter.unusedVariables false

theorem andNot_low (m k : Nat) (hk : k ≤ 64) (hm : m < 18446744073709551616) (T : Nat) (hT : 2 ^ k = T) : bits .andNot .u64 (m : Int) ((T : Int) - 1) = ((m / T * T : Nat) : Int) := by
  have hT1 : 0 < T := by rw [← hT]; exact Nat.two_pow_pos k
  have hT2 : T ≤ 18446744073709551616 := by rw [← hT]; exact Nat.pow_le_pow_right (n := 2) (j := 64) (by omega) hk
  have := u64_andNot_nat m (T - 1) hm (by omega)
  rw [show ((T - 1 : Nat) : Int) = (T : Int) - 1 from by omega] at this
  rw [this]
  congr 1
  have e : 18446744073709551615 - (T - 1) = (2 ^ (64 - k) - 1) * 2 ^ k := by
    rw [Nat.sub_mul, ← Nat.pow_add, show 64 - k + k = 64 from by omega, hT]; omega
  rw [e, ← hT]
  apply Nat.eq_of_testBit_eq
  intro i
  rw [Nat.testBit_and, Nat.testBit_mul_two_pow, Nat.testBit_mul_two_pow, Nat.testBit_two_pow_sub_one, Nat.testBit_div_two_pow]
  by_cases c : k ≤ i
  · rw [show i - k + k = i from by omega]
    by_cases d : i < 64
    · simp [c]; intro; omega
    · have : m.testBit i = false := Nat.testBit_lt_two_pow (Nat.lt_of_lt_of_le hm (Nat.pow_le_pow_right (n := 2) (i := 64) (j := i) (by omega) (by omega)))
      simp [this]
  · simp [c]

set_option maxHeartbeats 1600000 in
theorem floor_M (x : Nat) (w : World) (hx : x < 18446744073709551616) :
    Calls Try.prog 59 #[.int .u64 x] w fun e w' => e = .returned (.int .u64 (floorW x : Nat)) ∧ w' = w := by
  have N1 := fun w => isNaN_any x w hx
  by_cases cn : 2047 * 2 ^ 52 < x % 2 ^ 63
  · have HV : Hid (floorW x = nanV) := floorW_nan cn
    rw [show nanB x = true from decide_eq_true cn] at N1
    clear cn
    go_enter Try.func59, Try.ntmps59
    go_wp2_with fail
    refine (N1 _).mono ?_; rintro e w' ⟨rfl, rfl⟩
    go_wp2
    go_ret
    rw [HV.out]; exact ⟨rfl, rfl⟩
  rw [show nanB x = false from decide_eq_false cn] at N1
  obtain ⟨r, h1, h2, h3⟩ := rung_of x hx
  by_cases ci : x % 2 ^ 63 = 2047 * 2 ^ 52
  · have HV : Hid (floorW x = x) := floorW_inf hx ci
    have e1 : ((r : Int) == 9218868437227405312) = true := by rw [beq_iff_eq]; omega
    clear cn ci h1
    go_enter Try.func59, Try.ntmps59
    go_wp2_with fail
    refine (N1 _).mono ?_; rintro e w' ⟨rfl, rfl⟩
    go_wp2
    go_ret
    rw [HV.out]; exact ⟨rfl, rfl⟩
  have e1 : ((r : Int) == 9218868437227405312) = false := by rw [beq_eq_false_iff_ne]; omega
  by_cases cz : x % 2 ^ 63 = 0
  · have HV : Hid (floorW x = x) := floorW_zero hx cz
    have e2 : ((r : Int) == 0) = true := by rw [beq_iff_eq]; omega
    clear cn ci cz h1
    go_enter Try.func59, Try.ntmps59
    go_wp2_with fail
    refine (N1 _).mono ?_; rintro e w' ⟨rfl, rfl⟩
    go_wp2
    go_ret
    rw [HV.out]; exact ⟨rfl, rfl⟩
  have e2 : ((r : Int) == 0) = false := by rw [beq_eq_false_iff_ne]; omega
  have fx : x % 2 ^ 63 < 2047 * 2 ^ 52 := by omega
  have P1 := fun w => parts_any x w hx fx
  have hs := and_sg x hx
  have hge := magE_ge (x % 2 ^ 63)
  have hle := magE_le fx
  have hml := magM_lt (x % 2 ^ 63)
  have hmp := magM_pos (by omega : 0 < x % 2 ^ 63)
  have hsl := sgW_lt (neg x)
  by_cases ce : 0 ≤ magE (x % 2 ^ 63)
  · have HV : Hid (floorW x = x) := floorW_whole hx fx ce
    generalize magE (x % 2 ^ 63) = e at *
    generalize magM (x % 2 ^ 63) = m at *
    generalize sgW (neg x) = SS at *
    clear cn ci cz h1
    go_enter Try.func59, Try.ntmps59
    go_wp2_with fail
    refine (N1 _).mono ?_; rintro e w' ⟨rfl, rfl⟩
    go_wp2_with fail
    refine (P1 _).mono ?_; rintro e w' ⟨rfl, rfl⟩
    go_wp2
    go_ret
    rw [HV.out]; exact ⟨rfl, rfl⟩
  obtain ⟨k, hk⟩ : ∃ k : Nat, magE (x % 2 ^ 63) = -(k : Int) := ⟨(-magE (x % 2 ^ 63)).toNat, by omega⟩
  have hk1 : 0 < k := by omega
  have hk2 : k ≤ 1074 := by omega
  by_cases cf : 53 ≤ k
  · have HV := floorW_far hx fx (by omega) k cf hk
    rw [hk] at P1
    generalize magM (x % 2 ^ 63) = m at *
    cases hn : neg x
    · rw [hn, if_neg (by decide)] at HV
      have HV : Hid (floorW x = 0) := HV
      rw [hn, show sgW false = 0 from rfl] at hs
      clear cn ci cz h1 hk hsl hge hle ce
      go_enter Try.func59, Try.ntmps59
      go_wp2_with fail
      refine (N1 _).mono ?_; rintro e w' ⟨rfl, rfl⟩
      go_wp2_with fail
      refine (P1 _).mono ?_; rintro e w' ⟨rfl, rfl⟩
      go_wp2
      go_ret
      rw [HV.out]; exact ⟨rfl, rfl⟩
    · rw [hn, if_pos rfl] at HV
      have HV : Hid (floorW x = 13830554455654793216) := HV
      rw [hn, show sgW true = 9223372036854775808 from rfl] at hs
      clear cn ci cz h1 hk hsl hge hle ce
      go_enter Try.func59, Try.ntmps59
      go_wp2_with fail
      refine (N1 _).mono ?_; rintro e w' ⟨rfl, rfl⟩
      go_wp2_with fail
      refine (P1 _).mono ?_; rintro e w' ⟨rfl, rfl⟩
      go_wp2
      go_ret
      rw [HV.out]; exact ⟨rfl, rfl⟩
  have hk3 : k < 53 := by omega
  obtain ⟨T, hT⟩ : ∃ T : Nat, 2 ^ k = T := ⟨_, rfl⟩
  have hT1 : 0 < T := by rw [← hT]; exact Nat.two_pow_pos k
  have hT2 : T ≤ 4503599627370496 := by rw [← hT]; exact Nat.pow_le_pow_right (n := 2) (j := 52) (by omega) (by omega)
  have hT' : (2 : Int) ^ k = (T : Int) := by rw [← hT]; push_cast; rfl
  have hand : bits .and .u64 (magM (x % 2 ^ 63) : Int) ((T : Int) - 1) = ((magM (x % 2 ^ 63) % T : Nat) : Int) := by
    have := u64_and_nat (magM (x % 2 ^ 63)) (T - 1) (by omega) (by omega)
    rw [show ((T - 1 : Nat) : Int) = (T : Int) - 1 from by omega] at this
    rw [this, ← hT, Nat.and_two_pow_sub_one_eq_mod]
  by_cases cm : magM (x % 2 ^ 63) % T = 0
  · have HV : Hid (floorW x = x) := floorW_same hx fx k hk (by rw [hT]; exact cm)
    rw [hk] at P1
    rw [cm] at hand
    generalize magM (x % 2 ^ 63) = m at *
    generalize sgW (neg x) = SS at *
    clear cn ci cz h1 hk hge hle ce cf cm hT
    go_enter Try.func59, Try.ntmps59
    go_wp2_with fail
    refine (N1 _).mono ?_; rintro e w' ⟨rfl, rfl⟩
    go_wp2_with fail
    refine (P1 _).mono ?_; rintro e w' ⟨rfl, rfl⟩
    go_wp2
    go_ret
    rw [HV.out]; exact ⟨rfl, rfl⟩
  have HV := floorW_part hx fx k hk (by rw [hT]; exact cm)
  have hnot := andNot_low (magM (x % 2 ^ 63)) k (by omega) (by omega) T hT
  rw [hk] at P1
  rw [hT] at HV
  generalize hm : magM (x % 2 ^ 63) = m at *
  obtain ⟨q, hq⟩ : ∃ q, m / T * T = q := ⟨_, rfl⟩
  have hq2 : q ≤ m := by rw [← hq]; exact Nat.div_mul_le_self _ _
  obtain ⟨r2, hr2⟩ : ∃ r2, m % T = r2 := ⟨_, rfl⟩
  have er2 : ((r2 : Int) == 0) = false := by rw [beq_eq_false_iff_ne]; omega
  rw [hr2] at hand
  rw [Nat.add_mul, hq] at HV
  rw [hq] at hnot
  cases hn : neg x
  · rw [hn] at HV hs
    rw [Bool.toNat_false, Nat.zero_mul, Nat.add_zero] at HV
    have HV : Hid (floorW x = Fl.packP false q (-(k : Int)) false) := by rw [packP_f]; exact HV
    rw [show sgW false = 0 from rfl] at hs
    clear cn ci cz h1 hk hge hle ce cf cm hT hq hr2 hm hsl
    go_enter Try.func59, Try.ntmps59
    go_wp2_with fail
    refine (N1 _).mono ?_; rintro e w' ⟨rfl, rfl⟩
    go_wp2_with fail
    refine (P1 _).mono ?_; rintro e w' ⟨rfl, rfl⟩
    go_wp2_with fail
    refine (pack_int false _ _ _ (-(k : Int)) q _ false _ rfl rfl rfl rfl (by omega) (by omega) (by omega) (by intro h; cases h)).mono ?_; rintro e w' ⟨rfl, rfl⟩
    go_wp2
    go_ret
    rw [HV.out]; exact ⟨rfl, rfl⟩
  · rw [hn] at HV hs
    rw [Bool.toNat_true, Nat.one_mul] at HV
    have HV : Hid (floorW x = Fl.packP true (q + T) (-(k : Int)) false) := by rw [packP_f]; exact HV
    rw [show sgW true = 9223372036854775808 from rfl] at hs
    clear cn ci cz h1 hk hge hle ce cf cm hT hq hr2 hm hsl
    go_enter Try.func59, Try.ntmps59
    go_wp2_with fail
    refine (N1 _).mono ?_; rintro e w' ⟨rfl, rfl⟩
    go_wp2_with fail
    refine (P1 _).mono ?_; rintro e w' ⟨rfl, rfl⟩
    go_wp2_with fail
    refine (pack_int true _ _ _ (-(k : Int)) (q + T) _ false _ rfl (by omega) rfl rfl (by omega) (by omega) (by omega) (by intro h; cases h)).mono ?_; rintro e w' ⟨rfl, rfl⟩
    go_wp2
    go_ret
    rw [HV.out]; exact ⟨rfl, rfl⟩
end Go.Proofs.Qxb6500290a
