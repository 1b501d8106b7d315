import Derived.Test.Qxb6500290aM2
import Derived.Test.Qxb6500290aSf3
namespace Go.Proofs.Qxb6500290a
open Go.RowKit
open Ieee (double)
set_option linter.unusedVariables false

theorem pack_int (s : Bool) (S man ex ex' : Int) (M : Nat) (st' st : Bool) (w : World) (hS : S = (sgW s : Int)) (hman : man = (M : Int)) (he : ex = ex') (hb : st' = st) (hM : M < 18446744073709551616) (hx1 : -1000000 ≤ ex') (hx2 : ex' ≤ 1000000) (hst : st = true → 2 ^ 53 ≤ M) :
    Calls Try.prog 64 #[.int .u64 S, .int .u64 man, .int .i64 ex, .bool st'] w fun e w' => e = .returned (.int .u64 (Fl.packP s M ex' st : Nat)) ∧ w' = w := by
  subst hS; subst hman; subst he; subst hb
  exact pack_any s M ex st' w hM hx1 hx2 hst

theorem sgW_lt (s : Bool) : sgW s < 9223372036854775809 := by cases s <;> simp [sgW]

/-- What the two words' tests say, as the walk of add meets them. -/
structure AddIn (a b ma mb : Nat) (ea eb : Int) (sa sb : Bool) : Prop where
  N1 : ∀ w, Calls Try.prog 61 #[.int .u64 a, .int .u64 b] w fun e w' => e = .returned (.bool false) ∧ w' = w
  I1 : ∀ w, Calls Try.prog 67 #[.int .u64 a] w fun e w' => e = .returned (.bool false) ∧ w' = w
  I2 : ∀ w, Calls Try.prog 67 #[.int .u64 b] w fun e w' => e = .returned (.bool false) ∧ w' = w
  Z0 : ∀ w, Calls Try.prog 62 #[.int .u64 a, .int .u64 b] w fun e w' => e = .returned (.bool false) ∧ w' = w
  Z1 : ∀ w, Calls Try.prog 65 #[.int .u64 a] w fun e w' => e = .returned (.bool false) ∧ w' = w
  Z2 : ∀ w, Calls Try.prog 65 #[.int .u64 b] w fun e w' => e = .returned (.bool false) ∧ w' = w
  P1 : ∀ w, Calls Try.prog 66 #[.int .u64 a] w fun e w' => e = .returned (.tuple #[.int .u64 (ma : Nat), .int .i64 ea]) ∧ w' = w
  P2 : ∀ w, Calls Try.prog 66 #[.int .u64 b] w fun e w' => e = .returned (.tuple #[.int .u64 (mb : Nat), .int .i64 eb]) ∧ w' = w
  S1 : bits .and .u64 (a : Int) 9223372036854775808 = (sgW sa : Int)
  S2 : bits .and .u64 (b : Int) 9223372036854775808 = (sgW sb : Int)

set_option maxHeartbeats 3200000 in
theorem add_swap_near_eq (a b m n : Nat) (i j : Int) (s t : Bool) (w : World) (HI : Hid (AddIn a b n m j i t s)) (hm : m < 9007199254740992) (hn : n < 9007199254740992) (hi : i ≤ 1000) (hj : -1074 ≤ j) (hsw : j < i) (D : Nat) (hD : i - j = (D : Int)) (hst : s = t) (hD10 : D ≤ 10) (A V : Nat) (hA : (m : Int) * 2 ^ D = (A : Int)) (hA2 : A < 9223372036854775808) (HV : Hid (Fl.packP s (A + n) j false = V)) :
    Calls Try.prog 56 #[.int .u64 a, .int .u64 b] w fun e w' => e = .returned (.int .u64 (V : Nat)) ∧ w' = w := by
  have S1 := HI.out.S1
  have S2 := HI.out.S2
  subst hst
  have hss := sgW_lt s
  generalize hSS : sgW s = SS at *

  go_enter Try.func56, Try.ntmps56
  go_wp2_with fail
  refine (HI.out.N1 _).mono ?_; rintro e w' ⟨rfl, rfl⟩
  go_wp2_with fail
  refine (HI.out.I1 _).mono ?_; rintro e w' ⟨rfl, rfl⟩
  go_wp2_with fail
  refine (HI.out.I2 _).mono ?_; rintro e w' ⟨rfl, rfl⟩
  go_wp2_with fail
  refine (HI.out.Z0 _).mono ?_; rintro e w' ⟨rfl, rfl⟩
  go_wp2_with fail
  refine (HI.out.Z1 _).mono ?_; rintro e w' ⟨rfl, rfl⟩
  go_wp2_with fail
  refine (HI.out.Z2 _).mono ?_; rintro e w' ⟨rfl, rfl⟩
  go_wp2_with fail
  refine (HI.out.P1 _).mono ?_; rintro e w' ⟨rfl, rfl⟩
  go_wp2_with fail
  refine (HI.out.P2 _).mono ?_; rintro e w' ⟨rfl, rfl⟩
  go_wp2_with fail
  refine (pack_int s _ _ _ j (A + n) _ false _ (by rw [hSS]) (by omega) rfl (by first | rfl | (simp; omega)) (by omega) (by omega) (by omega) (by intro h; cases h)).mono ?_; rintro e w' ⟨rfl, rfl⟩
  go_wp2
  go_ret
  rw [HV.out]; exact ⟨rfl, rfl⟩

set_option maxHeartbeats 3200000 in
theorem add_swap_near_zero (a b m n : Nat) (i j : Int) (s t : Bool) (w : World) (HI : Hid (AddIn a b n m j i t s)) (hm : m < 9007199254740992) (hn : n < 9007199254740992) (hi : i ≤ 1000) (hj : -1074 ≤ j) (hsw : j < i) (D : Nat) (hD : i - j = (D : Int)) (hst : ((sgW s : Int) == (sgW t : Int)) = false) (hD10 : D ≤ 10) (A V : Nat) (hA : (m : Int) * 2 ^ D = (A : Int)) (hA2 : A < 9223372036854775808) (hAn : A = n) (HV : Hid (0 = V)) :
    Calls Try.prog 56 #[.int .u64 a, .int .u64 b] w fun e w' => e = .returned (.int .u64 (V : Nat)) ∧ w' = w := by
  have S1 := HI.out.S1
  have S2 := HI.out.S2
  have hss := sgW_lt s
  have htt := sgW_lt t
  generalize hSS : sgW s = SS at *
  generalize hTT : sgW t = TT at *

  go_enter Try.func56, Try.ntmps56
  go_wp2_with fail
  refine (HI.out.N1 _).mono ?_; rintro e w' ⟨rfl, rfl⟩
  go_wp2_with fail
  refine (HI.out.I1 _).mono ?_; rintro e w' ⟨rfl, rfl⟩
  go_wp2_with fail
  refine (HI.out.I2 _).mono ?_; rintro e w' ⟨rfl, rfl⟩
  go_wp2_with fail
  refine (HI.out.Z0 _).mono ?_; rintro e w' ⟨rfl, rfl⟩
  go_wp2_with fail
  refine (HI.out.Z1 _).mono ?_; rintro e w' ⟨rfl, rfl⟩
  go_wp2_with fail
  refine (HI.out.Z2 _).mono ?_; rintro e w' ⟨rfl, rfl⟩
  go_wp2_with fail
  refine (HI.out.P1 _).mono ?_; rintro e w' ⟨rfl, rfl⟩
  go_wp2_with fail
  refine (HI.out.P2 _).mono ?_; rintro e w' ⟨rfl, rfl⟩
  go_wp2_with fail
  go_ret
  rw [← HV.out]; exact ⟨rfl, rfl⟩

set_option maxHeartbeats 3200000 in
theorem add_swap_near_lt (a b m n : Nat) (i j : Int) (s t : Bool) (w : World) (HI : Hid (AddIn a b n m j i t s)) (hm : m < 9007199254740992) (hn : n < 9007199254740992) (hi : i ≤ 1000) (hj : -1074 ≤ j) (hsw : j < i) (D : Nat) (hD : i - j = (D : Int)) (hst : ((sgW s : Int) == (sgW t : Int)) = false) (hD10 : D ≤ 10) (A V : Nat) (hA : (m : Int) * 2 ^ D = (A : Int)) (hA2 : A < 9223372036854775808) (hAn : A < n) (HV : Hid (Fl.packP t (n - A) j false = V)) :
    Calls Try.prog 56 #[.int .u64 a, .int .u64 b] w fun e w' => e = .returned (.int .u64 (V : Nat)) ∧ w' = w := by
  have S1 := HI.out.S1
  have S2 := HI.out.S2
  have hss := sgW_lt s
  have htt := sgW_lt t
  generalize hSS : sgW s = SS at *
  generalize hTT : sgW t = TT at *

  go_enter Try.func56, Try.ntmps56
  go_wp2_with fail
  refine (HI.out.N1 _).mono ?_; rintro e w' ⟨rfl, rfl⟩
  go_wp2_with fail
  refine (HI.out.I1 _).mono ?_; rintro e w' ⟨rfl, rfl⟩
  go_wp2_with fail
  refine (HI.out.I2 _).mono ?_; rintro e w' ⟨rfl, rfl⟩
  go_wp2_with fail
  refine (HI.out.Z0 _).mono ?_; rintro e w' ⟨rfl, rfl⟩
  go_wp2_with fail
  refine (HI.out.Z1 _).mono ?_; rintro e w' ⟨rfl, rfl⟩
  go_wp2_with fail
  refine (HI.out.Z2 _).mono ?_; rintro e w' ⟨rfl, rfl⟩
  go_wp2_with fail
  refine (HI.out.P1 _).mono ?_; rintro e w' ⟨rfl, rfl⟩
  go_wp2_with fail
  refine (HI.out.P2 _).mono ?_; rintro e w' ⟨rfl, rfl⟩
  go_wp2_with fail
  refine (pack_int t _ _ _ j (n - A) _ false _ (by rw [hTT]) (by omega) rfl (by first | rfl | (simp; omega)) (by omega) (by omega) (by omega) (by intro h; cases h)).mono ?_; rintro e w' ⟨rfl, rfl⟩
  go_wp2
  go_ret
  rw [HV.out]; exact ⟨rfl, rfl⟩

set_option maxHeartbeats 3200000 in
theorem add_swap_near_gt (a b m n : Nat) (i j : Int) (s t : Bool) (w : World) (HI : Hid (AddIn a b n m j i t s)) (hm : m < 9007199254740992) (hn : n < 9007199254740992) (hi : i ≤ 1000) (hj : -1074 ≤ j) (hsw : j < i) (D : Nat) (hD : i - j = (D : Int)) (hst : ((sgW s : Int) == (sgW t : Int)) = false) (hD10 : D ≤ 10) (A V : Nat) (hA : (m : Int) * 2 ^ D = (A : Int)) (hA2 : A < 9223372036854775808) (hAn : n < A) (HV : Hid (Fl.packP s (A - n) j false = V)) :
    Calls Try.prog 56 #[.int .u64 a, .int .u64 b] w fun e w' => e = .returned (.int .u64 (V : Nat)) ∧ w' = w := by
  have S1 := HI.out.S1
  have S2 := HI.out.S2
  have hss := sgW_lt s
  have htt := sgW_lt t
  generalize hSS : sgW s = SS at *
  generalize hTT : sgW t = TT at *

  go_enter Try.func56, Try.ntmps56
  go_wp2_with fail
  refine (HI.out.N1 _).mono ?_; rintro e w' ⟨rfl, rfl⟩
  go_wp2_with fail
  refine (HI.out.I1 _).mono ?_; rintro e w' ⟨rfl, rfl⟩
  go_wp2_with fail
  refine (HI.out.I2 _).mono ?_; rintro e w' ⟨rfl, rfl⟩
  go_wp2_with fail
  refine (HI.out.Z0 _).mono ?_; rintro e w' ⟨rfl, rfl⟩
  go_wp2_with fail
  refine (HI.out.Z1 _).mono ?_; rintro e w' ⟨rfl, rfl⟩
  go_wp2_with fail
  refine (HI.out.Z2 _).mono ?_; rintro e w' ⟨rfl, rfl⟩
  go_wp2_with fail
  refine (HI.out.P1 _).mono ?_; rintro e w' ⟨rfl, rfl⟩
  go_wp2_with fail
  refine (HI.out.P2 _).mono ?_; rintro e w' ⟨rfl, rfl⟩
  go_wp2_with fail
  refine (pack_int s _ _ _ j (A - n) _ false _ (by rw [hSS]) (by omega) rfl (by first | rfl | (simp; omega)) (by omega) (by omega) (by omega) (by intro h; cases h)).mono ?_; rintro e w' ⟨rfl, rfl⟩
  go_wp2
  go_ret
  rw [HV.out]; exact ⟨rfl, rfl⟩

set_option maxHeartbeats 3200000 in
theorem add_swap_far_eq (a b m n : Nat) (i j : Int) (s t : Bool) (w : World) (HI : Hid (AddIn a b n m j i t s)) (hm : m < 9007199254740992) (hn : n < 9007199254740992) (hi : i ≤ 1000) (hj : -1074 ≤ j) (hsw : j < i) (D : Nat) (hD : i - j = (D : Int)) (hst : s = t) (hD10 : 10 < D) (k : Nat) (hk : (D : Int) - 10 = (k : Int)) (hk64 : 64 ≤ k) (hm2 : 4503599627370496 ≤ m)  (V : Nat) (HV : Hid (Fl.packP s (m * 1024) (i - 10) true = V)) :
    Calls Try.prog 56 #[.int .u64 a, .int .u64 b] w fun e w' => e = .returned (.int .u64 (V : Nat)) ∧ w' = w := by
  have S1 := HI.out.S1
  have S2 := HI.out.S2
  subst hst
  have hss := sgW_lt s
  generalize hSS : sgW s = SS at *

  go_enter Try.func56, Try.ntmps56
  go_wp2_with fail
  refine (HI.out.N1 _).mono ?_; rintro e w' ⟨rfl, rfl⟩
  go_wp2_with fail
  refine (HI.out.I1 _).mono ?_; rintro e w' ⟨rfl, rfl⟩
  go_wp2_with fail
  refine (HI.out.I2 _).mono ?_; rintro e w' ⟨rfl, rfl⟩
  go_wp2_with fail
  refine (HI.out.Z0 _).mono ?_; rintro e w' ⟨rfl, rfl⟩
  go_wp2_with fail
  refine (HI.out.Z1 _).mono ?_; rintro e w' ⟨rfl, rfl⟩
  go_wp2_with fail
  refine (HI.out.Z2 _).mono ?_; rintro e w' ⟨rfl, rfl⟩
  go_wp2_with fail
  refine (HI.out.P1 _).mono ?_; rintro e w' ⟨rfl, rfl⟩
  go_wp2_with fail
  refine (HI.out.P2 _).mono ?_; rintro e w' ⟨rfl, rfl⟩
  go_wp2_with fail
  refine (pack_int s _ _ _ (i - 10) (m * 1024) _ true _ (by rw [hSS]) (by omega) rfl (by first | rfl | (simp; omega)) (by omega) (by omega) (by omega) (by omega)).mono ?_; rintro e w' ⟨rfl, rfl⟩
  go_wp2
  go_ret
  rw [HV.out]; exact ⟨rfl, rfl⟩

set_option maxHeartbeats 3200000 in
theorem add_swap_far_ne (a b m n : Nat) (i j : Int) (s t : Bool) (w : World) (HI : Hid (AddIn a b n m j i t s)) (hm : m < 9007199254740992) (hn : n < 9007199254740992) (hi : i ≤ 1000) (hj : -1074 ≤ j) (hsw : j < i) (D : Nat) (hD : i - j = (D : Int)) (hst : ((sgW s : Int) == (sgW t : Int)) = false) (hD10 : 10 < D) (k : Nat) (hk : (D : Int) - 10 = (k : Int)) (hk64 : 64 ≤ k) (hm2 : 4503599627370496 ≤ m)  (V : Nat) (HV : Hid (Fl.packP s (m * 1024 - 1) (i - 10) true = V)) :
    Calls Try.prog 56 #[.int .u64 a, .int .u64 b] w fun e w' => e = .returned (.int .u64 (V : Nat)) ∧ w' = w := by
  have S1 := HI.out.S1
  have S2 := HI.out.S2
  have hss := sgW_lt s
  have htt := sgW_lt t
  generalize hSS : sgW s = SS at *
  generalize hTT : sgW t = TT at *

  go_enter Try.func56, Try.ntmps56
  go_wp2_with fail
  refine (HI.out.N1 _).mono ?_; rintro e w' ⟨rfl, rfl⟩
  go_wp2_with fail
  refine (HI.out.I1 _).mono ?_; rintro e w' ⟨rfl, rfl⟩
  go_wp2_with fail
  refine (HI.out.I2 _).mono ?_; rintro e w' ⟨rfl, rfl⟩
  go_wp2_with fail
  refine (HI.out.Z0 _).mono ?_; rintro e w' ⟨rfl, rfl⟩
  go_wp2_with fail
  refine (HI.out.Z1 _).mono ?_; rintro e w' ⟨rfl, rfl⟩
  go_wp2_with fail
  refine (HI.out.Z2 _).mono ?_; rintro e w' ⟨rfl, rfl⟩
  go_wp2_with fail
  refine (HI.out.P1 _).mono ?_; rintro e w' ⟨rfl, rfl⟩
  go_wp2_with fail
  refine (HI.out.P2 _).mono ?_; rintro e w' ⟨rfl, rfl⟩
  go_wp2_with fail
  refine (pack_int s _ _ _ (i - 10) (m * 1024 - 1) _ true _ (by rw [hSS]) (by omega) rfl (by first | rfl | (simp; omega)) (by omega) (by omega) (by omega) (by omega)).mono ?_; rintro e w' ⟨rfl, rfl⟩
  go_wp2
  go_ret
  rw [HV.out]; exact ⟨rfl, rfl⟩

set_option maxHeartbeats 3200000 in
theorem add_swap_mid_eq_z (a b m n : Nat) (i j : Int) (s t : Bool) (w : World) (HI : Hid (AddIn a b n m j i t s)) (hm : m < 9007199254740992) (hn : n < 9007199254740992) (hi : i ≤ 1000) (hj : -1074 ≤ j) (hsw : j < i) (D : Nat) (hD : i - j = (D : Int)) (hst : s = t) (hD10 : 10 < D) (k : Nat) (hk : (D : Int) - 10 = (k : Int)) (hk64 : k < 64) (hm2 : 4503599627370496 ≤ m) (T q r V : Nat) (hT : (2 : Int) ^ k = (T : Int)) (hT1 : 0 < T) (hT2 : T < 18446744073709551616) (hq : (n : Int) / (T : Int) = (q : Int)) (hqn : q ≤ n) (hr : bits .and .u64 (n : Int) ((T : Int) - 1) = (r : Int)) (hr0 : r = 0) (HV : Hid (Fl.packP s (m * 1024 + q) (i - 10) false = V)) :
    Calls Try.prog 56 #[.int .u64 a, .int .u64 b] w fun e w' => e = .returned (.int .u64 (V : Nat)) ∧ w' = w := by
  have S1 := HI.out.S1
  have S2 := HI.out.S2
  subst hr0
  subst hst
  have hss := sgW_lt s
  generalize hSS : sgW s = SS at *

  go_enter Try.func56, Try.ntmps56
  go_wp2_with fail
  refine (HI.out.N1 _).mono ?_; rintro e w' ⟨rfl, rfl⟩
  go_wp2_with fail
  refine (HI.out.I1 _).mono ?_; rintro e w' ⟨rfl, rfl⟩
  go_wp2_with fail
  refine (HI.out.I2 _).mono ?_; rintro e w' ⟨rfl, rfl⟩
  go_wp2_with fail
  refine (HI.out.Z0 _).mono ?_; rintro e w' ⟨rfl, rfl⟩
  go_wp2_with fail
  refine (HI.out.Z1 _).mono ?_; rintro e w' ⟨rfl, rfl⟩
  go_wp2_with fail
  refine (HI.out.Z2 _).mono ?_; rintro e w' ⟨rfl, rfl⟩
  go_wp2_with fail
  refine (HI.out.P1 _).mono ?_; rintro e w' ⟨rfl, rfl⟩
  go_wp2_with fail
  refine (HI.out.P2 _).mono ?_; rintro e w' ⟨rfl, rfl⟩
  go_wp2_with fail
  refine (pack_int s _ _ _ (i - 10) (m * 1024 + q) _ false _ (by rw [hSS]) (by omega) rfl (by first | rfl | (simp; omega)) (by omega) (by omega) (by omega) (by intro h; cases h)).mono ?_; rintro e w' ⟨rfl, rfl⟩
  go_wp2
  go_ret
  rw [HV.out]; exact ⟨rfl, rfl⟩

set_option maxHeartbeats 3200000 in
theorem add_swap_mid_ne_z (a b m n : Nat) (i j : Int) (s t : Bool) (w : World) (HI : Hid (AddIn a b n m j i t s)) (hm : m < 9007199254740992) (hn : n < 9007199254740992) (hi : i ≤ 1000) (hj : -1074 ≤ j) (hsw : j < i) (D : Nat) (hD : i - j = (D : Int)) (hst : ((sgW s : Int) == (sgW t : Int)) = false) (hD10 : 10 < D) (k : Nat) (hk : (D : Int) - 10 = (k : Int)) (hk64 : k < 64) (hm2 : 4503599627370496 ≤ m) (T q r V : Nat) (hT : (2 : Int) ^ k = (T : Int)) (hT1 : 0 < T) (hT2 : T < 18446744073709551616) (hq : (n : Int) / (T : Int) = (q : Int)) (hqn : q ≤ n) (hr : bits .and .u64 (n : Int) ((T : Int) - 1) = (r : Int)) (hr0 : r = 0) (HV : Hid (Fl.packP s (m * 1024 - q) (i - 10) false = V)) :
    Calls Try.prog 56 #[.int .u64 a, .int .u64 b] w fun e w' => e = .returned (.int .u64 (V : Nat)) ∧ w' = w := by
  have S1 := HI.out.S1
  have S2 := HI.out.S2
  subst hr0
  have hss := sgW_lt s
  have htt := sgW_lt t
  generalize hSS : sgW s = SS at *
  generalize hTT : sgW t = TT at *

  go_enter Try.func56, Try.ntmps56
  go_wp2_with fail
  refine (HI.out.N1 _).mono ?_; rintro e w' ⟨rfl, rfl⟩
  go_wp2_with fail
  refine (HI.out.I1 _).mono ?_; rintro e w' ⟨rfl, rfl⟩
  go_wp2_with fail
  refine (HI.out.I2 _).mono ?_; rintro e w' ⟨rfl, rfl⟩
  go_wp2_with fail
  refine (HI.out.Z0 _).mono ?_; rintro e w' ⟨rfl, rfl⟩
  go_wp2_with fail
  refine (HI.out.Z1 _).mono ?_; rintro e w' ⟨rfl, rfl⟩
  go_wp2_with fail
  refine (HI.out.Z2 _).mono ?_; rintro e w' ⟨rfl, rfl⟩
  go_wp2_with fail
  refine (HI.out.P1 _).mono ?_; rintro e w' ⟨rfl, rfl⟩
  go_wp2_with fail
  refine (HI.out.P2 _).mono ?_; rintro e w' ⟨rfl, rfl⟩
  go_wp2_with fail
  refine (pack_int s _ _ _ (i - 10) (m * 1024 - q) _ false _ (by rw [hSS]) (by omega) rfl (by first | rfl | (simp; omega)) (by omega) (by omega) (by omega) (by intro h; cases h)).mono ?_; rintro e w' ⟨rfl, rfl⟩
  go_wp2
  go_ret
  rw [HV.out]; exact ⟨rfl, rfl⟩

set_option maxHeartbeats 3200000 in
theorem add_swap_mid_eq_n (a b m n : Nat) (i j : Int) (s t : Bool) (w : World) (HI : Hid (AddIn a b n m j i t s)) (hm : m < 9007199254740992) (hn : n < 9007199254740992) (hi : i ≤ 1000) (hj : -1074 ≤ j) (hsw : j < i) (D : Nat) (hD : i - j = (D : Int)) (hst : s = t) (hD10 : 10 < D) (k : Nat) (hk : (D : Int) - 10 = (k : Int)) (hk64 : k < 64) (hm2 : 4503599627370496 ≤ m) (T q r V : Nat) (hT : (2 : Int) ^ k = (T : Int)) (hT1 : 0 < T) (hT2 : T < 18446744073709551616) (hq : (n : Int) / (T : Int) = (q : Int)) (hqn : q ≤ n) (hr : bits .and .u64 (n : Int) ((T : Int) - 1) = (r : Int)) (hr0 : 0 < r) (HV : Hid (Fl.packP s (m * 1024 + q) (i - 10) true = V)) :
    Calls Try.prog 56 #[.int .u64 a, .int .u64 b] w fun e w' => e = .returned (.int .u64 (V : Nat)) ∧ w' = w := by
  have S1 := HI.out.S1
  have S2 := HI.out.S2
  subst hst
  have hss := sgW_lt s
  generalize hSS : sgW s = SS at *

  go_enter Try.func56, Try.ntmps56
  go_wp2_with fail
  refine (HI.out.N1 _).mono ?_; rintro e w' ⟨rfl, rfl⟩
  go_wp2_with fail
  refine (HI.out.I1 _).mono ?_; rintro e w' ⟨rfl, rfl⟩
  go_wp2_with fail
  refine (HI.out.I2 _).mono ?_; rintro e w' ⟨rfl, rfl⟩
  go_wp2_with fail
  refine (HI.out.Z0 _).mono ?_; rintro e w' ⟨rfl, rfl⟩
  go_wp2_with fail
  refine (HI.out.Z1 _).mono ?_; rintro e w' ⟨rfl, rfl⟩
  go_wp2_with fail
  refine (HI.out.Z2 _).mono ?_; rintro e w' ⟨rfl, rfl⟩
  go_wp2_with fail
  refine (HI.out.P1 _).mono ?_; rintro e w' ⟨rfl, rfl⟩
  go_wp2_with fail
  refine (HI.out.P2 _).mono ?_; rintro e w' ⟨rfl, rfl⟩
  go_wp2_with fail
  refine (pack_int s _ _ _ (i - 10) (m * 1024 + q) _ true _ (by rw [hSS]) (by omega) rfl (by first | rfl | (simp; omega)) (by omega) (by omega) (by omega) (by omega)).mono ?_; rintro e w' ⟨rfl, rfl⟩
  go_wp2
  go_ret
  rw [HV.out]; exact ⟨rfl, rfl⟩

set_option maxHeartbeats 3200000 in
theorem add_swap_mid_ne_n (a b m n : Nat) (i j : Int) (s t : Bool) (w : World) (HI : Hid (AddIn a b n m j i t s)) (hm : m < 9007199254740992) (hn : n < 9007199254740992) (hi : i ≤ 1000) (hj : -1074 ≤ j) (hsw : j < i) (D : Nat) (hD : i - j = (D : Int)) (hst : ((sgW s : Int) == (sgW t : Int)) = false) (hD10 : 10 < D) (k : Nat) (hk : (D : Int) - 10 = (k : Int)) (hk64 : k < 64) (hm2 : 4503599627370496 ≤ m) (T q r V : Nat) (hT : (2 : Int) ^ k = (T : Int)) (hT1 : 0 < T) (hT2 : T < 18446744073709551616) (hq : (n : Int) / (T : Int) = (q : Int)) (hqn : q ≤ n) (hr : bits .and .u64 (n : Int) ((T : Int) - 1) = (r : Int)) (hr0 : 0 < r) (HV : Hid (Fl.packP s (m * 1024 - q - 1) (i - 10) true = V)) :
    Calls Try.prog 56 #[.int .u64 a, .int .u64 b] w fun e w' => e = .returned (.int .u64 (V : Nat)) ∧ w' = w := by
  have S1 := HI.out.S1
  have S2 := HI.out.S2
  have hss := sgW_lt s
  have htt := sgW_lt t
  generalize hSS : sgW s = SS at *
  generalize hTT : sgW t = TT at *

  go_enter Try.func56, Try.ntmps56
  go_wp2_with fail
  refine (HI.out.N1 _).mono ?_; rintro e w' ⟨rfl, rfl⟩
  go_wp2_with fail
  refine (HI.out.I1 _).mono ?_; rintro e w' ⟨rfl, rfl⟩
  go_wp2_with fail
  refine (HI.out.I2 _).mono ?_; rintro e w' ⟨rfl, rfl⟩
  go_wp2_with fail
  refine (HI.out.Z0 _).mono ?_; rintro e w' ⟨rfl, rfl⟩
  go_wp2_with fail
  refine (HI.out.Z1 _).mono ?_; rintro e w' ⟨rfl, rfl⟩
  go_wp2_with fail
  refine (HI.out.Z2 _).mono ?_; rintro e w' ⟨rfl, rfl⟩
  go_wp2_with fail
  refine (HI.out.P1 _).mono ?_; rintro e w' ⟨rfl, rfl⟩
  go_wp2_with fail
  refine (HI.out.P2 _).mono ?_; rintro e w' ⟨rfl, rfl⟩
  go_wp2_with fail
  refine (pack_int s _ _ _ (i - 10) (m * 1024 - q - 1) _ true _ (by rw [hSS]) (by omega) rfl (by first | rfl | (simp; omega)) (by omega) (by omega) (by omega) (by omega)).mono ?_; rintro e w' ⟨rfl, rfl⟩
  go_wp2
  go_ret
  rw [HV.out]; exact ⟨rfl, rfl⟩

set_option maxHeartbeats 3200000 in
theorem add_stay_near_eq (a b m n : Nat) (i j : Int) (s t : Bool) (w : World) (HI : Hid (AddIn a b m n i j s t)) (hm : m < 9007199254740992) (hn : n < 9007199254740992) (hi : i ≤ 1000) (hj : -1074 ≤ j) (hsw : j ≤ i) (D : Nat) (hD : i - j = (D : Int)) (hst : s = t) (hD10 : D ≤ 10) (A V : Nat) (hA : (m : Int) * 2 ^ D = (A : Int)) (hA2 : A < 9223372036854775808) (HV : Hid (Fl.packP s (A + n) j false = V)) :
    Calls Try.prog 56 #[.int .u64 a, .int .u64 b] w fun e w' => e = .returned (.int .u64 (V : Nat)) ∧ w' = w := by
  have S1 := HI.out.S1
  have S2 := HI.out.S2
  subst hst
  have hss := sgW_lt s
  generalize hSS : sgW s = SS at *

  go_enter Try.func56, Try.ntmps56
  go_wp2_with fail
  refine (HI.out.N1 _).mono ?_; rintro e w' ⟨rfl, rfl⟩
  go_wp2_with fail
  refine (HI.out.I1 _).mono ?_; rintro e w' ⟨rfl, rfl⟩
  go_wp2_with fail
  refine (HI.out.I2 _).mono ?_; rintro e w' ⟨rfl, rfl⟩
  go_wp2_with fail
  refine (HI.out.Z0 _).mono ?_; rintro e w' ⟨rfl, rfl⟩
  go_wp2_with fail
  refine (HI.out.Z1 _).mono ?_; rintro e w' ⟨rfl, rfl⟩
  go_wp2_with fail
  refine (HI.out.Z2 _).mono ?_; rintro e w' ⟨rfl, rfl⟩
  go_wp2_with fail
  refine (HI.out.P1 _).mono ?_; rintro e w' ⟨rfl, rfl⟩
  go_wp2_with fail
  refine (HI.out.P2 _).mono ?_; rintro e w' ⟨rfl, rfl⟩
  go_wp2_with fail
  refine (pack_int s _ _ _ j (A + n) _ false _ (by rw [hSS]) (by omega) rfl (by first | rfl | (simp; omega)) (by omega) (by omega) (by omega) (by intro h; cases h)).mono ?_; rintro e w' ⟨rfl, rfl⟩
  go_wp2
  go_ret
  rw [HV.out]; exact ⟨rfl, rfl⟩

set_option maxHeartbeats 3200000 in
theorem add_stay_near_zero (a b m n : Nat) (i j : Int) (s t : Bool) (w : World) (HI : Hid (AddIn a b m n i j s t)) (hm : m < 9007199254740992) (hn : n < 9007199254740992) (hi : i ≤ 1000) (hj : -1074 ≤ j) (hsw : j ≤ i) (D : Nat) (hD : i - j = (D : Int)) (hst : ((sgW s : Int) == (sgW t : Int)) = false) (hD10 : D ≤ 10) (A V : Nat) (hA : (m : Int) * 2 ^ D = (A : Int)) (hA2 : A < 9223372036854775808) (hAn : A = n) (HV : Hid (0 = V)) :
    Calls Try.prog 56 #[.int .u64 a, .int .u64 b] w fun e w' => e = .returned (.int .u64 (V : Nat)) ∧ w' = w := by
  have S1 := HI.out.S1
  have S2 := HI.out.S2
  have hss := sgW_lt s
  have htt := sgW_lt t
  generalize hSS : sgW s = SS at *
  generalize hTT : sgW t = TT at *

  go_enter Try.func56, Try.ntmps56
  go_wp2_with fail
  refine (HI.out.N1 _).mono ?_; rintro e w' ⟨rfl, rfl⟩
  go_wp2_with fail
  refine (HI.out.I1 _).mono ?_; rintro e w' ⟨rfl, rfl⟩
  go_wp2_with fail
  refine (HI.out.I2 _).mono ?_; rintro e w' ⟨rfl, rfl⟩
  go_wp2_with fail
  refine (HI.out.Z0 _).mono ?_; rintro e w' ⟨rfl, rfl⟩
  go_wp2_with fail
  refine (HI.out.Z1 _).mono ?_; rintro e w' ⟨rfl, rfl⟩
  go_wp2_with fail
  refine (HI.out.Z2 _).mono ?_; rintro e w' ⟨rfl, rfl⟩
  go_wp2_with fail
  refine (HI.out.P1 _).mono ?_; rintro e w' ⟨rfl, rfl⟩
  go_wp2_with fail
  refine (HI.out.P2 _).mono ?_; rintro e w' ⟨rfl, rfl⟩
  go_wp2_with fail
  go_ret
  rw [← HV.out]; exact ⟨rfl, rfl⟩

set_option maxHeartbeats 3200000 in
theorem add_stay_near_lt (a b m n : Nat) (i j : Int) (s t : Bool) (w : World) (HI : Hid (AddIn a b m n i j s t)) (hm : m < 9007199254740992) (hn : n < 9007199254740992) (hi : i ≤ 1000) (hj : -1074 ≤ j) (hsw : j ≤ i) (D : Nat) (hD : i - j = (D : Int)) (hst : ((sgW s : Int) == (sgW t : Int)) = false) (hD10 : D ≤ 10) (A V : Nat) (hA : (m : Int) * 2 ^ D = (A : Int)) (hA2 : A < 9223372036854775808) (hAn : A < n) (HV : Hid (Fl.packP t (n - A) j false = V)) :
    Calls Try.prog 56 #[.int .u64 a, .int .u64 b] w fun e w' => e = .returned (.int .u64 (V : Nat)) ∧ w' = w := by
  have S1 := HI.out.S1
  have S2 := HI.out.S2
  have hss := sgW_lt s
  have htt := sgW_lt t
  generalize hSS : sgW s = SS at *
  generalize hTT : sgW t = TT at *

  go_enter Try.func56, Try.ntmps56
  go_wp2_with fail
  refine (HI.out.N1 _).mono ?_; rintro e w' ⟨rfl, rfl⟩
  go_wp2_with fail
  refine (HI.out.I1 _).mono ?_; rintro e w' ⟨rfl, rfl⟩
  go_wp2_with fail
  refine (HI.out.I2 _).mono ?_; rintro e w' ⟨rfl, rfl⟩
  go_wp2_with fail
  refine (HI.out.Z0 _).mono ?_; rintro e w' ⟨rfl, rfl⟩
  go_wp2_with fail
  refine (HI.out.Z1 _).mono ?_; rintro e w' ⟨rfl, rfl⟩
  go_wp2_with fail
  refine (HI.out.Z2 _).mono ?_; rintro e w' ⟨rfl, rfl⟩
  go_wp2_with fail
  refine (HI.out.P1 _).mono ?_; rintro e w' ⟨rfl, rfl⟩
  go_wp2_with fail
  refine (HI.out.P2 _).mono ?_; rintro e w' ⟨rfl, rfl⟩
  go_wp2_with fail
  refine (pack_int t _ _ _ j (n - A) _ false _ (by rw [hTT]) (by omega) rfl (by first | rfl | (simp; omega)) (by omega) (by omega) (by omega) (by intro h; cases h)).mono ?_; rintro e w' ⟨rfl, rfl⟩
  go_wp2
  go_ret
  rw [HV.out]; exact ⟨rfl, rfl⟩

set_option maxHeartbeats 3200000 in
theorem add_stay_near_gt (a b m n : Nat) (i j : Int) (s t : Bool) (w : World) (HI : Hid (AddIn a b m n i j s t)) (hm : m < 9007199254740992) (hn : n < 9007199254740992) (hi : i ≤ 1000) (hj : -1074 ≤ j) (hsw : j ≤ i) (D : Nat) (hD : i - j = (D : Int)) (hst : ((sgW s : Int) == (sgW t : Int)) = false) (hD10 : D ≤ 10) (A V : Nat) (hA : (m : Int) * 2 ^ D = (A : Int)) (hA2 : A < 9223372036854775808) (hAn : n < A) (HV : Hid (Fl.packP s (A - n) j false = V)) :
    Calls Try.prog 56 #[.int .u64 a, .int .u64 b] w fun e w' => e = .returned (.int .u64 (V : Nat)) ∧ w' = w := by
  have S1 := HI.out.S1
  have S2 := HI.out.S2
  have hss := sgW_lt s
  have htt := sgW_lt t
  generalize hSS : sgW s = SS at *
  generalize hTT : sgW t = TT at *

  go_enter Try.func56, Try.ntmps56
  go_wp2_with fail
  refine (HI.out.N1 _).mono ?_; rintro e w' ⟨rfl, rfl⟩
  go_wp2_with fail
  refine (HI.out.I1 _).mono ?_; rintro e w' ⟨rfl, rfl⟩
  go_wp2_with fail
  refine (HI.out.I2 _).mono ?_; rintro e w' ⟨rfl, rfl⟩
  go_wp2_with fail
  refine (HI.out.Z0 _).mono ?_; rintro e w' ⟨rfl, rfl⟩
  go_wp2_with fail
  refine (HI.out.Z1 _).mono ?_; rintro e w' ⟨rfl, rfl⟩
  go_wp2_with fail
  refine (HI.out.Z2 _).mono ?_; rintro e w' ⟨rfl, rfl⟩
  go_wp2_with fail
  refine (HI.out.P1 _).mono ?_; rintro e w' ⟨rfl, rfl⟩
  go_wp2_with fail
  refine (HI.out.P2 _).mono ?_; rintro e w' ⟨rfl, rfl⟩
  go_wp2_with fail
  refine (pack_int s _ _ _ j (A - n) _ false _ (by rw [hSS]) (by omega) rfl (by first | rfl | (simp; omega)) (by omega) (by omega) (by omega) (by intro h; cases h)).mono ?_; rintro e w' ⟨rfl, rfl⟩
  go_wp2
  go_ret
  rw [HV.out]; exact ⟨rfl, rfl⟩

set_option maxHeartbeats 3200000 in
theorem add_stay_far_eq (a b m n : Nat) (i j : Int) (s t : Bool) (w : World) (HI : Hid (AddIn a b m n i j s t)) (hm : m < 9007199254740992) (hn : n < 9007199254740992) (hi : i ≤ 1000) (hj : -1074 ≤ j) (hsw : j ≤ i) (D : Nat) (hD : i - j = (D : Int)) (hst : s = t) (hD10 : 10 < D) (k : Nat) (hk : (D : Int) - 10 = (k : Int)) (hk64 : 64 ≤ k) (hm2 : 4503599627370496 ≤ m)  (V : Nat) (HV : Hid (Fl.packP s (m * 1024) (i - 10) true = V)) :
    Calls Try.prog 56 #[.int .u64 a, .int .u64 b] w fun e w' => e = .returned (.int .u64 (V : Nat)) ∧ w' = w := by
  have S1 := HI.out.S1
  have S2 := HI.out.S2
  subst hst
  have hss := sgW_lt s
  generalize hSS : sgW s = SS at *

  go_enter Try.func56, Try.ntmps56
  go_wp2_with fail
  refine (HI.out.N1 _).mono ?_; rintro e w' ⟨rfl, rfl⟩
  go_wp2_with fail
  refine (HI.out.I1 _).mono ?_; rintro e w' ⟨rfl, rfl⟩
  go_wp2_with fail
  refine (HI.out.I2 _).mono ?_; rintro e w' ⟨rfl, rfl⟩
  go_wp2_with fail
  refine (HI.out.Z0 _).mono ?_; rintro e w' ⟨rfl, rfl⟩
  go_wp2_with fail
  refine (HI.out.Z1 _).mono ?_; rintro e w' ⟨rfl, rfl⟩
  go_wp2_with fail
  refine (HI.out.Z2 _).mono ?_; rintro e w' ⟨rfl, rfl⟩
  go_wp2_with fail
  refine (HI.out.P1 _).mono ?_; rintro e w' ⟨rfl, rfl⟩
  go_wp2_with fail
  refine (HI.out.P2 _).mono ?_; rintro e w' ⟨rfl, rfl⟩
  go_wp2_with fail
  refine (pack_int s _ _ _ (i - 10) (m * 1024) _ true _ (by rw [hSS]) (by omega) rfl (by first | rfl | (simp; omega)) (by omega) (by omega) (by omega) (by omega)).mono ?_; rintro e w' ⟨rfl, rfl⟩
  go_wp2
  go_ret
  rw [HV.out]; exact ⟨rfl, rfl⟩

set_option maxHeartbeats 3200000 in
theorem add_stay_far_ne (a b m n : Nat) (i j : Int) (s t : Bool) (w : World) (HI : Hid (AddIn a b m n i j s t)) (hm : m < 9007199254740992) (hn : n < 9007199254740992) (hi : i ≤ 1000) (hj : -1074 ≤ j) (hsw : j ≤ i) (D : Nat) (hD : i - j = (D : Int)) (hst : ((sgW s : Int) == (sgW t : Int)) = false) (hD10 : 10 < D) (k : Nat) (hk : (D : Int) - 10 = (k : Int)) (hk64 : 64 ≤ k) (hm2 : 4503599627370496 ≤ m)  (V : Nat) (HV : Hid (Fl.packP s (m * 1024 - 1) (i - 10) true = V)) :
    Calls Try.prog 56 #[.int .u64 a, .int .u64 b] w fun e w' => e = .returned (.int .u64 (V : Nat)) ∧ w' = w := by
  have S1 := HI.out.S1
  have S2 := HI.out.S2
  have hss := sgW_lt s
  have htt := sgW_lt t
  generalize hSS : sgW s = SS at *
  generalize hTT : sgW t = TT at *

  go_enter Try.func56, Try.ntmps56
  go_wp2_with fail
  refine (HI.out.N1 _).mono ?_; rintro e w' ⟨rfl, rfl⟩
  go_wp2_with fail
  refine (HI.out.I1 _).mono ?_; rintro e w' ⟨rfl, rfl⟩
  go_wp2_with fail
  refine (HI.out.I2 _).mono ?_; rintro e w' ⟨rfl, rfl⟩
  go_wp2_with fail
  refine (HI.out.Z0 _).mono ?_; rintro e w' ⟨rfl, rfl⟩
  go_wp2_with fail
  refine (HI.out.Z1 _).mono ?_; rintro e w' ⟨rfl, rfl⟩
  go_wp2_with fail
  refine (HI.out.Z2 _).mono ?_; rintro e w' ⟨rfl, rfl⟩
  go_wp2_with fail
  refine (HI.out.P1 _).mono ?_; rintro e w' ⟨rfl, rfl⟩
  go_wp2_with fail
  refine (HI.out.P2 _).mono ?_; rintro e w' ⟨rfl, rfl⟩
  go_wp2_with fail
  refine (pack_int s _ _ _ (i - 10) (m * 1024 - 1) _ true _ (by rw [hSS]) (by omega) rfl (by first | rfl | (simp; omega)) (by omega) (by omega) (by omega) (by omega)).mono ?_; rintro e w' ⟨rfl, rfl⟩
  go_wp2
  go_ret
  rw [HV.out]; exact ⟨rfl, rfl⟩

set_option maxHeartbeats 3200000 in
theorem add_stay_mid_eq_z (a b m n : Nat) (i j : Int) (s t : Bool) (w : World) (HI : Hid (AddIn a b m n i j s t)) (hm : m < 9007199254740992) (hn : n < 9007199254740992) (hi : i ≤ 1000) (hj : -1074 ≤ j) (hsw : j ≤ i) (D : Nat) (hD : i - j = (D : Int)) (hst : s = t) (hD10 : 10 < D) (k : Nat) (hk : (D : Int) - 10 = (k : Int)) (hk64 : k < 64) (hm2 : 4503599627370496 ≤ m) (T q r V : Nat) (hT : (2 : Int) ^ k = (T : Int)) (hT1 : 0 < T) (hT2 : T < 18446744073709551616) (hq : (n : Int) / (T : Int) = (q : Int)) (hqn : q ≤ n) (hr : bits .and .u64 (n : Int) ((T : Int) - 1) = (r : Int)) (hr0 : r = 0) (HV : Hid (Fl.packP s (m * 1024 + q) (i - 10) false = V)) :
    Calls Try.prog 56 #[.int .u64 a, .int .u64 b] w fun e w' => e = .returned (.int .u64 (V : Nat)) ∧ w' = w := by
  have S1 := HI.out.S1
  have S2 := HI.out.S2
  subst hr0
  subst hst
  have hss := sgW_lt s
  generalize hSS : sgW s = SS at *

  go_enter Try.func56, Try.ntmps56
  go_wp2_with fail
  refine (HI.out.N1 _).mono ?_; rintro e w' ⟨rfl, rfl⟩
  go_wp2_with fail
  refine (HI.out.I1 _).mono ?_; rintro e w' ⟨rfl, rfl⟩
  go_wp2_with fail
  refine (HI.out.I2 _).mono ?_; rintro e w' ⟨rfl, rfl⟩
  go_wp2_with fail
  refine (HI.out.Z0 _).mono ?_; rintro e w' ⟨rfl, rfl⟩
  go_wp2_with fail
  refine (HI.out.Z1 _).mono ?_; rintro e w' ⟨rfl, rfl⟩
  go_wp2_with fail
  refine (HI.out.Z2 _).mono ?_; rintro e w' ⟨rfl, rfl⟩
  go_wp2_with fail
  refine (HI.out.P1 _).mono ?_; rintro e w' ⟨rfl, rfl⟩
  go_wp2_with fail
  refine (HI.out.P2 _).mono ?_; rintro e w' ⟨rfl, rfl⟩
  go_wp2_with fail
  refine (pack_int s _ _ _ (i - 10) (m * 1024 + q) _ false _ (by rw [hSS]) (by omega) rfl (by first | rfl | (simp; omega)) (by omega) (by omega) (by omega) (by intro h; cases h)).mono ?_; rintro e w' ⟨rfl, rfl⟩
  go_wp2
  go_ret
  rw [HV.out]; exact ⟨rfl, rfl⟩

set_option maxHeartbeats 3200000 in
theorem add_stay_mid_ne_z (a b m n : Nat) (i j : Int) (s t : Bool) (w : World) (HI : Hid (AddIn a b m n i j s t)) (hm : m < 9007199254740992) (hn : n < 9007199254740992) (hi : i ≤ 1000) (hj : -1074 ≤ j) (hsw : j ≤ i) (D : Nat) (hD : i - j = (D : Int)) (hst : ((sgW s : Int) == (sgW t : Int)) = false) (hD10 : 10 < D) (k : Nat) (hk : (D : Int) - 10 = (k : Int)) (hk64 : k < 64) (hm2 : 4503599627370496 ≤ m) (T q r V : Nat) (hT : (2 : Int) ^ k = (T : Int)) (hT1 : 0 < T) (hT2 : T < 18446744073709551616) (hq : (n : Int) / (T : Int) = (q : Int)) (hqn : q ≤ n) (hr : bits .and .u64 (n : Int) ((T : Int) - 1) = (r : Int)) (hr0 : r = 0) (HV : Hid (Fl.packP s (m * 1024 - q) (i - 10) false = V)) :
    Calls Try.prog 56 #[.int .u64 a, .int .u64 b] w fun e w' => e = .returned (.int .u64 (V : Nat)) ∧ w' = w := by
  have S1 := HI.out.S1
  have S2 := HI.out.S2
  subst hr0
  have hss := sgW_lt s
  have htt := sgW_lt t
  generalize hSS : sgW s = SS at *
  generalize hTT : sgW t = TT at *

  go_enter Try.func56, Try.ntmps56
  go_wp2_with fail
  refine (HI.out.N1 _).mono ?_; rintro e w' ⟨rfl, rfl⟩
  go_wp2_with fail
  refine (HI.out.I1 _).mono ?_; rintro e w' ⟨rfl, rfl⟩
  go_wp2_with fail
  refine (HI.out.I2 _).mono ?_; rintro e w' ⟨rfl, rfl⟩
  go_wp2_with fail
  refine (HI.out.Z0 _).mono ?_; rintro e w' ⟨rfl, rfl⟩
  go_wp2_with fail
  refine (HI.out.Z1 _).mono ?_; rintro e w' ⟨rfl, rfl⟩
  go_wp2_with fail
  refine (HI.out.Z2 _).mono ?_; rintro e w' ⟨rfl, rfl⟩
  go_wp2_with fail
  refine (HI.out.P1 _).mono ?_; rintro e w' ⟨rfl, rfl⟩
  go_wp2_with fail
  refine (HI.out.P2 _).mono ?_; rintro e w' ⟨rfl, rfl⟩
  go_wp2_with fail
  refine (pack_int s _ _ _ (i - 10) (m * 1024 - q) _ false _ (by rw [hSS]) (by omega) rfl (by first | rfl | (simp; omega)) (by omega) (by omega) (by omega) (by intro h; cases h)).mono ?_; rintro e w' ⟨rfl, rfl⟩
  go_wp2
  go_ret
  rw [HV.out]; exact ⟨rfl, rfl⟩

set_option maxHeartbeats 3200000 in
theorem add_stay_mid_eq_n (a b m n : Nat) (i j : Int) (s t : Bool) (w : World) (HI : Hid (AddIn a b m n i j s t)) (hm : m < 9007199254740992) (hn : n < 9007199254740992) (hi : i ≤ 1000) (hj : -1074 ≤ j) (hsw : j ≤ i) (D : Nat) (hD : i - j = (D : Int)) (hst : s = t) (hD10 : 10 < D) (k : Nat) (hk : (D : Int) - 10 = (k : Int)) (hk64 : k < 64) (hm2 : 4503599627370496 ≤ m) (T q r V : Nat) (hT : (2 : Int) ^ k = (T : Int)) (hT1 : 0 < T) (hT2 : T < 18446744073709551616) (hq : (n : Int) / (T : Int) = (q : Int)) (hqn : q ≤ n) (hr : bits .and .u64 (n : Int) ((T : Int) - 1) = (r : Int)) (hr0 : 0 < r) (HV : Hid (Fl.packP s (m * 1024 + q) (i - 10) true = V)) :
    Calls Try.prog 56 #[.int .u64 a, .int .u64 b] w fun e w' => e = .returned (.int .u64 (V : Nat)) ∧ w' = w := by
  have S1 := HI.out.S1
  have S2 := HI.out.S2
  subst hst
  have hss := sgW_lt s
  generalize hSS : sgW s = SS at *

  go_enter Try.func56, Try.ntmps56
  go_wp2_with fail
  refine (HI.out.N1 _).mono ?_; rintro e w' ⟨rfl, rfl⟩
  go_wp2_with fail
  refine (HI.out.I1 _).mono ?_; rintro e w' ⟨rfl, rfl⟩
  go_wp2_with fail
  refine (HI.out.I2 _).mono ?_; rintro e w' ⟨rfl, rfl⟩
  go_wp2_with fail
  refine (HI.out.Z0 _).mono ?_; rintro e w' ⟨rfl, rfl⟩
  go_wp2_with fail
  refine (HI.out.Z1 _).mono ?_; rintro e w' ⟨rfl, rfl⟩
  go_wp2_with fail
  refine (HI.out.Z2 _).mono ?_; rintro e w' ⟨rfl, rfl⟩
  go_wp2_with fail
  refine (HI.out.P1 _).mono ?_; rintro e w' ⟨rfl, rfl⟩
  go_wp2_with fail
  refine (HI.out.P2 _).mono ?_; rintro e w' ⟨rfl, rfl⟩
  go_wp2_with fail
  refine (pack_int s _ _ _ (i - 10) (m * 1024 + q) _ true _ (by rw [hSS]) (by omega) rfl (by first | rfl | (simp; omega)) (by omega) (by omega) (by omega) (by omega)).mono ?_; rintro e w' ⟨rfl, rfl⟩
  go_wp2
  go_ret
  rw [HV.out]; exact ⟨rfl, rfl⟩

set_option maxHeartbeats 3200000 in
theorem add_stay_mid_ne_n (a b m n : Nat) (i j : Int) (s t : Bool) (w : World) (HI : Hid (AddIn a b m n i j s t)) (hm : m < 9007199254740992) (hn : n < 9007199254740992) (hi : i ≤ 1000) (hj : -1074 ≤ j) (hsw : j ≤ i) (D : Nat) (hD : i - j = (D : Int)) (hst : ((sgW s : Int) == (sgW t : Int)) = false) (hD10 : 10 < D) (k : Nat) (hk : (D : Int) - 10 = (k : Int)) (hk64 : k < 64) (hm2 : 4503599627370496 ≤ m) (T q r V : Nat) (hT : (2 : Int) ^ k = (T : Int)) (hT1 : 0 < T) (hT2 : T < 18446744073709551616) (hq : (n : Int) / (T : Int) = (q : Int)) (hqn : q ≤ n) (hr : bits .and .u64 (n : Int) ((T : Int) - 1) = (r : Int)) (hr0 : 0 < r) (HV : Hid (Fl.packP s (m * 1024 - q - 1) (i - 10) true = V)) :
    Calls Try.prog 56 #[.int .u64 a, .int .u64 b] w fun e w' => e = .returned (.int .u64 (V : Nat)) ∧ w' = w := by
  have S1 := HI.out.S1
  have S2 := HI.out.S2
  have hss := sgW_lt s
  have htt := sgW_lt t
  generalize hSS : sgW s = SS at *
  generalize hTT : sgW t = TT at *

  go_enter Try.func56, Try.ntmps56
  go_wp2_with fail
  refine (HI.out.N1 _).mono ?_; rintro e w' ⟨rfl, rfl⟩
  go_wp2_with fail
  refine (HI.out.I1 _).mono ?_; rintro e w' ⟨rfl, rfl⟩
  go_wp2_with fail
  refine (HI.out.I2 _).mono ?_; rintro e w' ⟨rfl, rfl⟩
  go_wp2_with fail
  refine (HI.out.Z0 _).mono ?_; rintro e w' ⟨rfl, rfl⟩
  go_wp2_with fail
  refine (HI.out.Z1 _).mono ?_; rintro e w' ⟨rfl, rfl⟩
  go_wp2_with fail
  refine (HI.out.Z2 _).mono ?_; rintro e w' ⟨rfl, rfl⟩
  go_wp2_with fail
  refine (HI.out.P1 _).mono ?_; rintro e w' ⟨rfl, rfl⟩
  go_wp2_with fail
  refine (HI.out.P2 _).mono ?_; rintro e w' ⟨rfl, rfl⟩
  go_wp2_with fail
  refine (pack_int s _ _ _ (i - 10) (m * 1024 - q - 1) _ true _ (by rw [hSS]) (by omega) rfl (by first | rfl | (simp; omega)) (by omega) (by omega) (by omega) (by omega)).mono ?_; rintro e w' ⟨rfl, rfl⟩
  go_wp2
  go_ret
  rw [HV.out]; exact ⟨rfl, rfl⟩


/-- The sum's word, by the greater place (m, i) and the lower one (n, j). -/
def SumIs (v : Nat) (s t : Bool) (m n D : Nat) (j : Int) : Prop :=
  v = if s = t then double.nearest s (m * 2 ^ D + n) j
      else if n < m * 2 ^ D then double.nearest s (m * 2 ^ D - n) j
      else if m * 2 ^ D < n then double.nearest t (n - m * 2 ^ D) j
      else 0
theorem sgW_ne {s t : Bool} (h : s ≠ t) : ((sgW s : Int) == (sgW t : Int)) = false := by
  have e1 : sgW true = 9223372036854775808 := rfl
  have e2 : sgW false = 0 := rfl
  rw [beq_eq_false_iff_ne]
  cases s <;> cases t
  · exact absurd rfl h
  · omega
  · omega
  · exact absurd rfl h
theorem packP_f (s : Bool) (m : Nat) (e : Int) : Fl.packP s m e false = double.nearest s m e := by
  unfold Fl.packP; exact if_neg (by decide)
theorem pow_dk {m D k : Nat} (hk : (D : Int) - 10 = (k : Int)) : m * 2 ^ D = m * 1024 * 2 ^ k := by
  rw [show D = 10 + k from by omega, Nat.pow_add, Nat.mul_assoc]


theorem add_swap (a b m n : Nat) (i j : Int) (s t : Bool) (w : World) (HI : Hid (AddIn a b n m j i t s)) (hm : m < 9007199254740992) (hn : n < 9007199254740992) (hm0 : 0 < m) (hn0 : 0 < n) (hi : i ≤ 1000) (hj : -1074 ≤ j) (hsw : j < i) (D : Nat) (hD : i - j = (D : Int)) (hbig : -1074 < i → 4503599627370496 ≤ m) (V : Nat) (hV : SumIs V s t m n D j) :
    Calls Try.prog 56 #[.int .u64 a, .int .u64 b] w fun e w' => e = .returned (.int .u64 (V : Nat)) ∧ w' = w := by
  unfold SumIs at hV
  by_cases hD10 : D ≤ 10
  · have hp : 2 ^ D ≤ 2 ^ 10 := Nat.pow_le_pow_right (by omega) hD10
    obtain ⟨A, hA⟩ : ∃ A : Nat, m * 2 ^ D = A := ⟨_, rfl⟩
    have hA2 : A < 9223372036854775808 := by
      rw [← hA]; exact Nat.lt_of_le_of_lt (Nat.mul_le_mul (by omega : m ≤ 9007199254740991) hp) (by decide)
    have hA' : (m : Int) * 2 ^ D = (A : Int) := by rw [← hA]; push_cast; rfl
    rw [hA] at hV
    by_cases hst : s = t
    · rw [if_pos hst] at hV
      exact add_swap_near_eq a b m n i j s t w HI hm hn hi hj hsw D hD hst hD10 A V hA' hA2 (hV.trans (packP_f ..).symm).symm
    · rw [if_neg hst] at hV
      by_cases c1 : n < A
      · rw [if_pos c1] at hV
        exact add_swap_near_gt a b m n i j s t w HI hm hn hi hj hsw D hD (sgW_ne hst) hD10 A V hA' hA2 c1 (hV.trans (packP_f ..).symm).symm
      · rw [if_neg c1] at hV
        by_cases c2 : A < n
        · rw [if_pos c2] at hV
          exact add_swap_near_lt a b m n i j s t w HI hm hn hi hj hsw D hD (sgW_ne hst) hD10 A V hA' hA2 c2 (hV.trans (packP_f ..).symm).symm
        · rw [if_neg c2] at hV
          exact add_swap_near_zero a b m n i j s t w HI hm hn hi hj hsw D hD (sgW_ne hst) hD10 A V hA' hA2 (by omega) hV.symm
  · obtain ⟨k, hk⟩ : ∃ k : Nat, (D : Int) - 10 = (k : Int) := ⟨D - 10, by omega⟩
    have hm2 := hbig (by omega)
    rw [pow_dk hk] at hV
    have hkk : 0 < 2 ^ k := Nat.two_pow_pos k
    have hex : i - 10 = j + k := by omega
    have hlt : n < m * 1024 * 2 ^ k := Nat.lt_of_lt_of_le (by omega : n < m * 1024) (Nat.le_mul_of_pos_right _ hkk)
    have hsum := far_sum s (m * 1024) n k j (by omega)
    have hsub := far_sub s (m * 1024) n k j (by omega) hn
    rw [← hex] at hsum hsub
    by_cases hk64 : k < 64
    · obtain ⟨T, hT⟩ : ∃ T : Nat, 2 ^ k = T := ⟨_, rfl⟩
      have hT' : (2 : Int) ^ k = (T : Int) := by rw [← hT]; push_cast; rfl
      have hT2 : T < 18446744073709551616 := by rw [← hT]; exact Nat.pow_lt_pow_right (by omega) hk64
      have hq : (n : Int) / (T : Int) = ((n / T : Nat) : Int) := by push_cast; rfl
      have hr : bits .and .u64 (n : Int) ((T : Int) - 1) = ((n % T : Nat) : Int) := by
        have := u64_and_nat n (T - 1) (by omega) (by omega)
        rw [show ((T - 1 : Nat) : Int) = (T : Int) - 1 from by omega] at this
        rw [this, ← hT, Nat.and_two_pow_sub_one_eq_mod]
      rw [hT] at hV hsum hsub hkk
      have hqn : n / T ≤ n := Nat.div_le_self _ _
      by_cases hst : s = t
      · rw [if_pos hst] at hV
        by_cases hr0 : n % T = 0
        · rw [hr0] at hsum
          exact add_swap_mid_eq_z a b m n i j s t w HI hm hn hi hj hsw D hD hst (by omega) k hk hk64 hm2 T (n / T) (n % T) V hT' hkk hT2 hq hqn hr hr0 (hV.trans hsum.symm).symm
        · rw [show (n % T != 0) = true from by simp [hr0]] at hsum
          exact add_swap_mid_eq_n a b m n i j s t w HI hm hn hi hj hsw D hD hst (by omega) k hk hk64 hm2 T (n / T) (n % T) V hT' hkk hT2 hq hqn hr (by omega) (hV.trans hsum.symm).symm
      · rw [if_neg hst, if_pos (by rw [← hT]; exact hlt)] at hV
        by_cases hr0 : n % T = 0
        · exact add_swap_mid_ne_z a b m n i j s t w HI hm hn hi hj hsw D hD (sgW_ne hst) (by omega) k hk hk64 hm2 T (n / T) (n % T) V hT' hkk hT2 hq hqn hr hr0 (hV.trans (hsub.2 hr0).symm).symm
        · exact add_swap_mid_ne_n a b m n i j s t w HI hm hn hi hj hsw D hD (sgW_ne hst) (by omega) k hk hk64 hm2 T (n / T) (n % T) V hT' hkk hT2 hq hqn hr (by omega) (hV.trans (hsub.1 hr0).symm).symm
    · have hbigk : n < 2 ^ k := Nat.lt_of_lt_of_le (by omega : n < 2 ^ 64) (Nat.pow_le_pow_right (by omega) (by omega))
      rw [Nat.div_eq_of_lt hbigk, Nat.mod_eq_of_lt hbigk] at hsum hsub
      rw [show (n != 0) = true from by simp; omega, Nat.add_zero] at hsum
      rw [Nat.sub_zero] at hsub
      by_cases hst : s = t
      · rw [if_pos hst] at hV
        exact add_swap_far_eq a b m n i j s t w HI hm hn hi hj hsw D hD hst (by omega) k hk (by omega) hm2 V (hV.trans hsum.symm).symm
      · rw [if_neg hst, if_pos hlt] at hV
        exact add_swap_far_ne a b m n i j s t w HI hm hn hi hj hsw D hD (sgW_ne hst) (by omega) k hk (by omega) hm2 V (hV.trans (hsub.1 (by omega)).symm).symm

theorem add_stay (a b m n : Nat) (i j : Int) (s t : Bool) (w : World) (HI : Hid (AddIn a b m n i j s t)) (hm : m < 9007199254740992) (hn : n < 9007199254740992) (hm0 : 0 < m) (hn0 : 0 < n) (hi : i ≤ 1000) (hj : -1074 ≤ j) (hsw : j ≤ i) (D : Nat) (hD : i - j = (D : Int)) (hbig : -1074 < i → 4503599627370496 ≤ m) (V : Nat) (hV : SumIs V s t m n D j) :
    Calls Try.prog 56 #[.int .u64 a, .int .u64 b] w fun e w' => e = .returned (.int .u64 (V : Nat)) ∧ w' = w := by
  unfold SumIs at hV
  by_cases hD10 : D ≤ 10
  · have hp : 2 ^ D ≤ 2 ^ 10 := Nat.pow_le_pow_right (by omega) hD10
    obtain ⟨A, hA⟩ : ∃ A : Nat, m * 2 ^ D = A := ⟨_, rfl⟩
    have hA2 : A < 9223372036854775808 := by
      rw [← hA]; exact Nat.lt_of_le_of_lt (Nat.mul_le_mul (by omega : m ≤ 9007199254740991) hp) (by decide)
    have hA' : (m : Int) * 2 ^ D = (A : Int) := by rw [← hA]; push_cast; rfl
    rw [hA] at hV
    by_cases hst : s = t
    · rw [if_pos hst] at hV
      exact add_stay_near_eq a b m n i j s t w HI hm hn hi hj hsw D hD hst hD10 A V hA' hA2 (hV.trans (packP_f ..).symm).symm
    · rw [if_neg hst] at hV
      by_cases c1 : n < A
      · rw [if_pos c1] at hV
        exact add_stay_near_gt a b m n i j s t w HI hm hn hi hj hsw D hD (sgW_ne hst) hD10 A V hA' hA2 c1 (hV.trans (packP_f ..).symm).symm
      · rw [if_neg c1] at hV
        by_cases c2 : A < n
        · rw [if_pos c2] at hV
          exact add_stay_near_lt a b m n i j s t w HI hm hn hi hj hsw D hD (sgW_ne hst) hD10 A V hA' hA2 c2 (hV.trans (packP_f ..).symm).symm
        · rw [if_neg c2] at hV
          exact add_stay_near_zero a b m n i j s t w HI hm hn hi hj hsw D hD (sgW_ne hst) hD10 A V hA' hA2 (by omega) hV.symm
  · obtain ⟨k, hk⟩ : ∃ k : Nat, (D : Int) - 10 = (k : Int) := ⟨D - 10, by omega⟩
    have hm2 := hbig (by omega)
    rw [pow_dk hk] at hV
    have hkk : 0 < 2 ^ k := Nat.two_pow_pos k
    have hex : i - 10 = j + k := by omega
    have hlt : n < m * 1024 * 2 ^ k := Nat.lt_of_lt_of_le (by omega : n < m * 1024) (Nat.le_mul_of_pos_right _ hkk)
    have hsum := far_sum s (m * 1024) n k j (by omega)
    have hsub := far_sub s (m * 1024) n k j (by omega) hn
    rw [← hex] at hsum hsub
    by_cases hk64 : k < 64
    · obtain ⟨T, hT⟩ : ∃ T : Nat, 2 ^ k = T := ⟨_, rfl⟩
      have hT' : (2 : Int) ^ k = (T : Int) := by rw [← hT]; push_cast; rfl
      have hT2 : T < 18446744073709551616 := by rw [← hT]; exact Nat.pow_lt_pow_right (by omega) hk64
      have hq : (n : Int) / (T : Int) = ((n / T : Nat) : Int) := by push_cast; rfl
      have hr : bits .and .u64 (n : Int) ((T : Int) - 1) = ((n % T : Nat) : Int) := by
        have := u64_and_nat n (T - 1) (by omega) (by omega)
        rw [show ((T - 1 : Nat) : Int) = (T : Int) - 1 from by omega] at this
        rw [this, ← hT, Nat.and_two_pow_sub_one_eq_mod]
      rw [hT] at hV hsum hsub hkk
      have hqn : n / T ≤ n := Nat.div_le_self _ _
      by_cases hst : s = t
      · rw [if_pos hst] at hV
        by_cases hr0 : n % T = 0
        · rw [hr0] at hsum
          exact add_stay_mid_eq_z a b m n i j s t w HI hm hn hi hj hsw D hD hst (by omega) k hk hk64 hm2 T (n / T) (n % T) V hT' hkk hT2 hq hqn hr hr0 (hV.trans hsum.symm).symm
        · rw [show (n % T != 0) = true from by simp [hr0]] at hsum
          exact add_stay_mid_eq_n a b m n i j s t w HI hm hn hi hj hsw D hD hst (by omega) k hk hk64 hm2 T (n / T) (n % T) V hT' hkk hT2 hq hqn hr (by omega) (hV.trans hsum.symm).symm
      · rw [if_neg hst, if_pos (by rw [← hT]; exact hlt)] at hV
        by_cases hr0 : n % T = 0
        · exact add_stay_mid_ne_z a b m n i j s t w HI hm hn hi hj hsw D hD (sgW_ne hst) (by omega) k hk hk64 hm2 T (n / T) (n % T) V hT' hkk hT2 hq hqn hr hr0 (hV.trans (hsub.2 hr0).symm).symm
        · exact add_stay_mid_ne_n a b m n i j s t w HI hm hn hi hj hsw D hD (sgW_ne hst) (by omega) k hk hk64 hm2 T (n / T) (n % T) V hT' hkk hT2 hq hqn hr (by omega) (hV.trans (hsub.1 hr0).symm).symm
    · have hbigk : n < 2 ^ k := Nat.lt_of_lt_of_le (by omega : n < 2 ^ 64) (Nat.pow_le_pow_right (by omega) (by omega))
      rw [Nat.div_eq_of_lt hbigk, Nat.mod_eq_of_lt hbigk] at hsum hsub
      rw [show (n != 0) = true from by simp; omega, Nat.add_zero] at hsum
      rw [Nat.sub_zero] at hsub
      by_cases hst : s = t
      · rw [if_pos hst] at hV
        exact add_stay_far_eq a b m n i j s t w HI hm hn hi hj hsw D hD hst (by omega) k hk (by omega) hm2 V (hV.trans hsum.symm).symm
      · rw [if_neg hst, if_pos hlt] at hV
        exact add_stay_far_ne a b m n i j s t w HI hm hn hi hj hsw D hD (sgW_ne hst) (by omega) k hk (by omega) hm2 V (hV.trans (hsub.1 (by omega)).symm).symm

theorem and_sg (x : Nat) (hx : x < 18446744073709551616) : bits .and .u64 (x : Int) 9223372036854775808 = (sgW (neg x) : Int) := by
  rw [and_sign x hx]
  unfold neg sgW
  by_cases c : 2 ^ 63 ≤ x
  · rw [decide_eq_true c, show x / 2 ^ 63 = 1 from by omega]; rfl
  · rw [decide_eq_false c, show x / 2 ^ 63 = 0 from by omega]; rfl

theorem add_gen (a b : Nat) (w : World) (ha : a < 18446744073709551616) (hb : b < 18446744073709551616) (fa : a % 2 ^ 63 < 2047 * 2 ^ 52) (fb : b % 2 ^ 63 < 2047 * 2 ^ 52) (za : 0 < a % 2 ^ 63) (zb : 0 < b % 2 ^ 63) :
    Calls Try.prog 56 #[.int .u64 a, .int .u64 b] w fun e w' => e = .returned (.int .u64 (addW a b : Nat)) ∧ w' = w := by
  have n1 : nanB a = false := decide_eq_false (by omega)
  have n2 : nanB b = false := decide_eq_false (by omega)
  have i1 : infB a = false := decide_eq_false (by omega)
  have i2 : infB b = false := decide_eq_false (by omega)
  have z1 : zerB a = false := decide_eq_false (by omega)
  have z2 : zerB b = false := decide_eq_false (by omega)
  have N1 := fun w => anyNaN_any a b w ha hb
  rw [n1, n2] at N1
  have I1 := fun w => isInf_any a w ha
  rw [i1] at I1
  have I2 := fun w => isInf_any b w hb
  rw [i2] at I2
  have Z0 := fun w => bothZero_any a b w ha hb
  rw [z1, z2] at Z0
  have Z1 := fun w => isZero_any a w ha
  rw [z1] at Z1
  have Z2 := fun w => isZero_any b w hb
  rw [z2] at Z2
  have HI : AddIn a b (magM (a % 2 ^ 63)) (magM (b % 2 ^ 63)) (magE (a % 2 ^ 63)) (magE (b % 2 ^ 63)) (neg a) (neg b) :=
    ⟨N1, I1, I2, Z0, Z1, Z2, fun w => parts_any a w ha fa, fun w => parts_any b w hb fb, and_sg a ha, and_sg b hb⟩
  have hma := magM_lt (a % 2 ^ 63)
  have hmb := magM_lt (b % 2 ^ 63)
  have hpa := magM_pos za
  have hpb := magM_pos zb
  have hea := magE_ge (a % 2 ^ 63)
  have heb := magE_ge (b % 2 ^ 63)
  have hea2 := magE_le fa
  have heb2 := magE_le fb
  have hbiga : -1074 < magE (a % 2 ^ 63) → 4503599627370496 ≤ magM (a % 2 ^ 63) := by
    unfold magE magM; split <;> intro h <;> omega
  have hbigb : -1074 < magE (b % 2 ^ 63) → 4503599627370496 ≤ magM (b % 2 ^ 63) := by
    unfold magE magM; split <;> intro h <;> omega
  by_cases hsw : magE (a % 2 ^ 63) < magE (b % 2 ^ 63)
  · obtain ⟨D, hD⟩ : ∃ D : Nat, magE (b % 2 ^ 63) - magE (a % 2 ^ 63) = (D : Int) := ⟨(magE (b % 2 ^ 63) - magE (a % 2 ^ 63)).toNat, by omega⟩
    have HR : SumIs (addW a b) (neg b) (neg a) (magM (b % 2 ^ 63)) (magM (a % 2 ^ 63)) D (magE (a % 2 ^ 63)) := by
      show _ = _
      rw [addW_comm a b ha hb fa fb, addW_big hb ha fb fa (by omega) D hD]
    exact add_swap a b _ _ _ _ _ _ w HI (by omega) (by omega) hpb hpa (by omega) hea hsw D hD hbigb _ HR
  · obtain ⟨D, hD⟩ : ∃ D : Nat, magE (a % 2 ^ 63) - magE (b % 2 ^ 63) = (D : Int) := ⟨(magE (a % 2 ^ 63) - magE (b % 2 ^ 63)).toNat, by omega⟩
    have HR : SumIs (addW a b) (neg a) (neg b) (magM (a % 2 ^ 63)) (magM (b % 2 ^ 63)) D (magE (b % 2 ^ 63)) := by
      show _ = _
      rw [addW_big ha hb fa fb (by omega) D hD]
    exact add_stay a b _ _ _ _ _ _ w HI (by omega) (by omega) hpa hpb (by omega) heb (by omega) D hD hbiga _ HR

set_option maxHeartbeats 3200000 in
theorem add_any (a b : Nat) (w : World) (ha : a < 18446744073709551616) (hb : b < 18446744073709551616) :
    Calls Try.prog 56 #[.int .u64 a, .int .u64 b] w fun e w' => e = .returned (.int .u64 (addW a b : Nat)) ∧ w' = w := by
  by_cases cn : 2047 * 2 ^ 52 < a % 2 ^ 63 ∨ 2047 * 2 ^ 52 < b % 2 ^ 63
  · have HV : Hid (addW a b = nanV) := addW_nan cn
    have N1 := fun w => anyNaN_any a b w ha hb
    rw [show (nanB a || nanB b) = true from by unfold nanB; rcases cn with h | h <;> simp [h]] at N1
    clear cn
    go_enter Try.func56, Try.ntmps56
    go_wp2_with fail
    refine (N1 _).mono ?_; rintro e w' ⟨rfl, rfl⟩
    go_wp2
    go_ret
    rw [HV.out]; exact ⟨rfl, rfl⟩
  have N1 := fun w => anyNaN_any a b w ha hb
  rw [show (nanB a || nanB b) = false from by unfold nanB; simp; omega] at N1
  by_cases ia : a % 2 ^ 63 = 2047 * 2 ^ 52
  · have I1 := fun w => isInf_any a w ha
    rw [show infB a = true from decide_eq_true ia] at I1
    have I2 := fun w => isInf_any b w hb
    by_cases ib : b % 2 ^ 63 = 2047 * 2 ^ 52
    · rw [show infB b = true from decide_eq_true ib] at I2
      have HV := addW_inf_inf ha hb ia ib
      by_cases e : a = b
      · rw [if_pos e] at HV
        have HV : Hid (addW a b = a) := HV
        have e' : ((a : Int) == (b : Int)) = true := by rw [beq_iff_eq]; omega
        clear cn ia ib e
        go_enter Try.func56, Try.ntmps56
        go_wp2_with fail
        refine (N1 _).mono ?_; rintro e w' ⟨rfl, rfl⟩
        go_wp2_with fail
        refine (I1 _).mono ?_; rintro e w' ⟨rfl, rfl⟩
        go_wp2_with fail
        refine (I2 _).mono ?_; rintro e w' ⟨rfl, rfl⟩
        go_wp2
        go_ret
        rw [HV.out]; exact ⟨rfl, rfl⟩
      · rw [if_neg e] at HV
        have HV : Hid (addW a b = nanV) := HV
        have e' : ((a : Int) == (b : Int)) = false := by rw [beq_eq_false_iff_ne]; omega
        clear cn ia ib e
        go_enter Try.func56, Try.ntmps56
        go_wp2_with fail
        refine (N1 _).mono ?_; rintro e w' ⟨rfl, rfl⟩
        go_wp2_with fail
        refine (I1 _).mono ?_; rintro e w' ⟨rfl, rfl⟩
        go_wp2_with fail
        refine (I2 _).mono ?_; rintro e w' ⟨rfl, rfl⟩
        go_wp2
        go_ret
        rw [HV.out]; exact ⟨rfl, rfl⟩
    · rw [show infB b = false from decide_eq_false ib] at I2
      have HV : Hid (addW a b = a) := addW_inf_left ha hb ia (by omega)
      clear cn ia ib
      go_enter Try.func56, Try.ntmps56
      go_wp2_with fail
      refine (N1 _).mono ?_; rintro e w' ⟨rfl, rfl⟩
      go_wp2_with fail
      refine (I1 _).mono ?_; rintro e w' ⟨rfl, rfl⟩
      go_wp2_with fail
      refine (I2 _).mono ?_; rintro e w' ⟨rfl, rfl⟩
      go_wp2
      go_ret
      rw [HV.out]; exact ⟨rfl, rfl⟩
  have I1 := fun w => isInf_any a w ha
  rw [show infB a = false from decide_eq_false ia] at I1
  by_cases ib : b % 2 ^ 63 = 2047 * 2 ^ 52
  · have I2 := fun w => isInf_any b w hb
    rw [show infB b = true from decide_eq_true ib] at I2
    have HV : Hid (addW a b = b) := addW_inf_right ha hb (by omega) ib
    clear cn ia ib
    go_enter Try.func56, Try.ntmps56
    go_wp2_with fail
    refine (N1 _).mono ?_; rintro e w' ⟨rfl, rfl⟩
    go_wp2_with fail
    refine (I1 _).mono ?_; rintro e w' ⟨rfl, rfl⟩
    go_wp2_with fail
    refine (I2 _).mono ?_; rintro e w' ⟨rfl, rfl⟩
    go_wp2
    go_ret
    rw [HV.out]; exact ⟨rfl, rfl⟩
  have I2 := fun w => isInf_any b w hb
  rw [show infB b = false from decide_eq_false ib] at I2
  have Z0 := fun w => bothZero_any a b w ha hb
  have Z1 := fun w => isZero_any a w ha
  have Z2 := fun w => isZero_any b w hb
  by_cases za : a % 2 ^ 63 = 0
  · rw [show zerB a = true from decide_eq_true za] at Z0 Z1
    by_cases zb : b % 2 ^ 63 = 0
    · rw [show zerB b = true from decide_eq_true zb] at Z0
      have HV : Hid (addW a b = a &&& b) := by
        show _ = _
        rw [addW_zero_zero ha hb za zb]
        rcases (by omega : a = 0 ∨ a = 9223372036854775808) with rfl | rfl <;> rcases (by omega : b = 0 ∨ b = 9223372036854775808) with rfl | rfl <;> rfl
      have hbits := u64_and_nat a b ha hb
      generalize a &&& b = c at *
      clear cn ia ib za zb
      go_enter Try.func56, Try.ntmps56
      go_wp2_with fail
      refine (N1 _).mono ?_; rintro e w' ⟨rfl, rfl⟩
      go_wp2_with fail
      refine (I1 _).mono ?_; rintro e w' ⟨rfl, rfl⟩
      go_wp2_with fail
      refine (I2 _).mono ?_; rintro e w' ⟨rfl, rfl⟩
      go_wp2_with fail
      refine (Z0 _).mono ?_; rintro e w' ⟨rfl, rfl⟩
      go_wp2
      go_ret
      rw [HV.out]; exact ⟨by first | rfl | rw [hbits], rfl⟩
    · rw [show zerB b = false from decide_eq_false zb] at Z0
      have HV : Hid (addW a b = b) := addW_zero_left ha hb za (by omega) (by omega)
      clear cn ia ib za zb
      go_enter Try.func56, Try.ntmps56
      go_wp2_with fail
      refine (N1 _).mono ?_; rintro e w' ⟨rfl, rfl⟩
      go_wp2_with fail
      refine (I1 _).mono ?_; rintro e w' ⟨rfl, rfl⟩
      go_wp2_with fail
      refine (I2 _).mono ?_; rintro e w' ⟨rfl, rfl⟩
      go_wp2_with fail
      refine (Z0 _).mono ?_; rintro e w' ⟨rfl, rfl⟩
      go_wp2_with fail
      refine (Z1 _).mono ?_; rintro e w' ⟨rfl, rfl⟩
      go_wp2
      go_ret
      rw [HV.out]; exact ⟨rfl, rfl⟩
  rw [show zerB a = false from decide_eq_false za] at Z0 Z1
  by_cases zb : b % 2 ^ 63 = 0
  · rw [show zerB b = true from decide_eq_true zb] at Z0 Z2
    have HV : Hid (addW a b = a) := addW_zero_right ha hb (by omega) (by omega) zb
    clear cn ia ib za zb
    go_enter Try.func56, Try.ntmps56
    go_wp2_with fail
    refine (N1 _).mono ?_; rintro e w' ⟨rfl, rfl⟩
    go_wp2_with fail
    refine (I1 _).mono ?_; rintro e w' ⟨rfl, rfl⟩
    go_wp2_with fail
    refine (I2 _).mono ?_; rintro e w' ⟨rfl, rfl⟩
    go_wp2_with fail
    refine (Z0 _).mono ?_; rintro e w' ⟨rfl, rfl⟩
    go_wp2_with fail
    refine (Z1 _).mono ?_; rintro e w' ⟨rfl, rfl⟩
    go_wp2_with fail
    refine (Z2 _).mono ?_; rintro e w' ⟨rfl, rfl⟩
    go_wp2
    go_ret
    rw [HV.out]; exact ⟨rfl, rfl⟩
  exact add_gen a b w ha hb (by omega) (by omega) (by omega) (by omega)
end Go.Proofs.Qxb6500290a
