import Derived.Test.Qxb6500290aM12
namespace Go.Proofs.Qxb6500290a
open Go.RowKit
open Ieee (double Datum)
set_option linter.unusedVariables false

theorem mag_pos_e {r : Nat} (h : r < 2047 * 2 ^ 52) (he : 0 < magE r) : 4845873199050653696 ≤ r ∧ (r = 4845873199050653696 ↔ (magE r = 1 ∧ magM r = 4503599627370496)) := by
  unfold magE magM at *
  split at he
  · omega
  · rename_i c
    rw [if_neg c, if_neg c]
    constructor
    · omega
    · constructor
      · intro e; subst e; decide
      · rintro ⟨e1, e2⟩; omega
theorem mag_neg_e {r : Nat} (he : magE r ≤ 0) : r < 4845873199050653696 := by
  unfold magE at he
  split at he <;> omega

set_option maxHeartbeats 3200000 in
theorem toInt_M (p : Value) (x : Nat) (w : World) (hx : x < 18446744073709551616) :
    Calls Try.prog 48 #[p, .int .u64 x] w fun e w' => e = .returned (.tuple #[.int .i64 (toIntV x), .bool (toIntB x)]) ∧ w' = w := by
  obtain ⟨r, hr, h2, h3⟩ := rung_of x hx
  have hno : ¬ isWh x → Hid (toIntV x = 0 ∧ toIntB x = false) := fun h => show _ ∧ _ from ⟨if_neg h, decide_eq_false h⟩
  have hyes : isWh x → Hid (toIntV x = whV x ∧ toIntB x = true) := fun h => show _ ∧ _ from ⟨if_pos h, decide_eq_true h⟩
  by_cases c1 : 2047 * 2 ^ 52 ≤ x % 2 ^ 63
  · have HV := hno (by rintro ⟨h, _⟩; rw [w53_eq] at h; omega)
    have d1 : decide ((9218868437227405312 : Int) ≤ (r : Int)) = true := decide_eq_true (by omega)
    clear c1 hr hno hyes
    go_enter Try.func48, Try.ntmps48
    go_wp2
    go_ret2
    exact ⟨ret_ib HV.out.1.symm HV.out.2.symm, rfl⟩
  have d1 : decide ((9218868437227405312 : Int) ≤ (r : Int)) = false := decide_eq_false (by omega)
  have Z1 := fun w => isZero_any x w hx
  by_cases cz : x % 2 ^ 63 = 0
  · have HV := hyes ⟨by rw [cz]; exact Nat.zero_le _, by rw [cz]; exact whole_zero.2⟩
    have hv : whV x = 0 := by
      unfold whV; rw [cz]
      have : Fl.wholeOf (magM 0) (magE 0) = 0 := by decide +kernel
      rw [this]; cases neg x <;> rfl
    rw [hv] at HV
    rw [show zerB x = true from decide_eq_true cz] at Z1
    clear c1 cz hr hno hyes hv
    go_enter Try.func48, Try.ntmps48
    go_wp2_with fail
    refine (Z1 _).mono ?_; rintro e w' ⟨rfl, rfl⟩
    go_wp2
    go_ret2
    exact ⟨ret_ib HV.out.1.symm HV.out.2.symm, rfl⟩
  rw [show zerB x = false from decide_eq_false cz] at Z1
  have fx : x % 2 ^ 63 < 2047 * 2 ^ 52 := by omega
  have P1 := fun w => parts_any x w hx fx
  have hge := magE_ge (x % 2 ^ 63)
  have hle := magE_le fx
  have hml := magM_lt (x % 2 ^ 63)
  have hmp := magM_pos (by omega : 0 < x % 2 ^ 63)
  have hs := and_sg x hx
  by_cases ce : 0 < magE (x % 2 ^ 63)
  · have hpe := mag_pos_e fx ce
    by_cases c53 : x % 2 ^ 63 = 4845873199050653696
    · have hm := hpe.2.1 c53
      have HV := hyes ⟨by rw [c53]; exact Nat.le_refl _, .inl (by omega)⟩
      have hv : whV x = Fl.sg (neg x) 9007199254740992 := by
        unfold whV
        rw [hm.1, hm.2]
        have : Fl.wholeOf 4503599627370496 1 = 9007199254740992 := by decide +kernel
        rw [this]
      rw [hv] at HV
      rw [hm.1, hm.2] at P1
      cases hn : neg x
      · rw [hn] at HV hs
        rw [show sgW false = 0 from rfl] at hs
        rw [show Fl.sg false 9007199254740992 = 9007199254740992 from rfl] at HV
        clear c1 cz hr hno hyes hv hm hpe hge hle hml hmp fx ce c53
        go_enter Try.func48, Try.ntmps48
        go_wp2_with fail
        refine (Z1 _).mono ?_; rintro e w' ⟨rfl, rfl⟩
        go_wp2_with fail
        refine (P1 _).mono ?_; rintro e w' ⟨rfl, rfl⟩
        go_wp2
        go_ret2
        exact ⟨ret_ib HV.out.1.symm HV.out.2.symm, rfl⟩
      · rw [hn] at HV hs
        rw [show sgW true = 9223372036854775808 from rfl] at hs
        rw [show Fl.sg true 9007199254740992 = -9007199254740992 from rfl] at HV
        clear c1 cz hr hno hyes hv hm hpe hge hle hml hmp fx ce c53
        go_enter Try.func48, Try.ntmps48
        go_wp2_with fail
        refine (Z1 _).mono ?_; rintro e w' ⟨rfl, rfl⟩
        go_wp2_with fail
        refine (P1 _).mono ?_; rintro e w' ⟨rfl, rfl⟩
        go_wp2
        go_ret2
        exact ⟨ret_ib HV.out.1.symm HV.out.2.symm, rfl⟩
    · have HV := hno (by rintro ⟨h, _⟩; rw [w53_eq] at h; omega)
      have hno1 : ¬ (magE (x % 2 ^ 63) = 1 ∧ magM (x % 2 ^ 63) = 4503599627370496) := fun h => c53 (hpe.2.2 h)
      generalize magE (x % 2 ^ 63) = e at *
      generalize magM (x % 2 ^ 63) = m at *
      by_cases c2 : 1 < e
      · clear c1 cz hr hno hyes hpe fx c53 hno1 hs
        go_enter Try.func48, Try.ntmps48
        go_wp2_with fail
        refine (Z1 _).mono ?_; rintro e w' ⟨rfl, rfl⟩
        go_wp2_with fail
        refine (P1 _).mono ?_; rintro e w' ⟨rfl, rfl⟩
        go_wp2
        go_ret2
        exact ⟨ret_ib HV.out.1.symm HV.out.2.symm, rfl⟩
      · have hm : ((m : Int) != 4503599627370496) = true := by rw [bne_iff_ne]; omega
        have he1 : e = 1 := by omega
        subst he1
        clear c1 cz hr hno hyes hpe fx c53 hno1 hs
        go_enter Try.func48, Try.ntmps48
        go_wp2_with fail
        refine (Z1 _).mono ?_; rintro e w' ⟨rfl, rfl⟩
        go_wp2_with fail
        refine (P1 _).mono ?_; rintro e w' ⟨rfl, rfl⟩
        go_wp2
        go_ret2
        exact ⟨ret_ib HV.out.1.symm HV.out.2.symm, rfl⟩
  have hlt53 := mag_neg_e (r := x % 2 ^ 63) (by omega)
  obtain ⟨k, hk⟩ : ∃ k : Nat, magE (x % 2 ^ 63) = -(k : Int) := ⟨(-magE (x % 2 ^ 63)).toNat, by omega⟩
  have hw : isWh x ↔ magM (x % 2 ^ 63) % 2 ^ k = 0 := by
    constructor
    · rintro ⟨_, h | h⟩
      · have : k = 0 := by omega
        subst this; rw [Nat.pow_zero, Nat.mod_one]
      · rw [hk, show (- -(k : Int)).toNat = k from by omega] at h; exact h
    · intro h
      exact ⟨by rw [w53_eq]; omega, .inr (by rw [hk, show (- -(k : Int)).toNat = k from by omega]; exact h)⟩
  have hv : whV x = Fl.sg (neg x) (magM (x % 2 ^ 63) / 2 ^ k) := by
    unfold whV Fl.wholeOf
    rw [hk, show (-(k : Int)).toNat = 0 from by omega, show (- -(k : Int)).toNat = k from by omega, Nat.pow_zero, Nat.mul_one]
  rw [hk] at P1
  by_cases cf : 53 ≤ k
  · have HV := hno (by
      rw [hw, Nat.mod_eq_of_lt (Nat.lt_of_lt_of_le hml (Nat.pow_le_pow_right (by omega) cf))]; omega)
    have hk2 : k ≤ 1074 := by omega
    generalize magM (x % 2 ^ 63) = m at *
    clear c1 cz hr hno hyes fx hw hv hs hge hle ce hk hlt53
    go_enter Try.func48, Try.ntmps48
    go_wp2_with fail
    refine (Z1 _).mono ?_; rintro e w' ⟨rfl, rfl⟩
    go_wp2_with fail
    refine (P1 _).mono ?_; rintro e w' ⟨rfl, rfl⟩
    go_wp2
    go_ret2
    exact ⟨ret_ib HV.out.1.symm HV.out.2.symm, rfl⟩
  have hk3 : k < 53 := by omega
  obtain ⟨T, hT⟩ : ∃ T : Nat, 2 ^ k = T := ⟨_, rfl⟩
  have hT1 : 0 < T := by rw [← hT]; exact Nat.two_pow_pos k
  have hT2 : T ≤ 4503599627370496 := by rw [← hT]; exact Nat.pow_le_pow_right (n := 2) (j := 52) (by omega) (by omega)
  have hT' : (2 : Int) ^ k = (T : Int) := by rw [← hT]; push_cast; rfl
  have hand : bits .and .u64 (magM (x % 2 ^ 63) : Int) ((T : Int) - 1) = ((magM (x % 2 ^ 63) % T : Nat) : Int) := by
    have := u64_and_nat (magM (x % 2 ^ 63)) (T - 1) (by omega) (by omega)
    rw [show ((T - 1 : Nat) : Int) = (T : Int) - 1 from by omega] at this
    rw [this, ← hT, Nat.and_two_pow_sub_one_eq_mod]
  rw [hT] at hw hv
  generalize magM (x % 2 ^ 63) = m at *
  by_cases cm : m % T = 0
  · have HV := hyes (hw.2 cm)
    rw [hv] at HV
    rw [cm] at hand
    obtain ⟨q, hq, hq2⟩ : ∃ q : Nat, (m : Int) / (T : Int) = (q : Int) ∧ m / T = q := ⟨m / T, by push_cast; rfl, rfl⟩
    have hq3 : q ≤ m := by rw [← hq2]; exact Nat.div_le_self _ _
    rw [hq2] at HV
    cases hn : neg x
    · rw [hn] at HV hs
      rw [show sgW false = 0 from rfl] at hs
      rw [show Fl.sg false q = (q : Int) from rfl] at HV
      clear c1 cz hr hno hyes fx hw hv hge hle ce hk hlt53 cf cm hT hq2 hn
      go_enter Try.func48, Try.ntmps48
      go_wp2_with fail
      refine (Z1 _).mono ?_; rintro e w' ⟨rfl, rfl⟩
      go_wp2_with fail
      refine (P1 _).mono ?_; rintro e w' ⟨rfl, rfl⟩
      go_wp2
      go_ret2
      exact ⟨ret_ib HV.out.1.symm HV.out.2.symm, rfl⟩
    · rw [hn] at HV hs
      rw [show sgW true = 9223372036854775808 from rfl] at hs
      rw [show Fl.sg true q = -(q : Int) from rfl] at HV
      clear c1 cz hr hno hyes fx hw hv hge hle ce hk hlt53 cf cm hT hq2 hn
      go_enter Try.func48, Try.ntmps48
      go_wp2_with fail
      refine (Z1 _).mono ?_; rintro e w' ⟨rfl, rfl⟩
      go_wp2_with fail
      refine (P1 _).mono ?_; rintro e w' ⟨rfl, rfl⟩
      go_wp2
      go_ret2
      exact ⟨ret_ib HV.out.1.symm HV.out.2.symm, rfl⟩
  · have HV := hno (fun h => cm (hw.1 h))
    obtain ⟨r2, hr2⟩ : ∃ r2, m % T = r2 := ⟨_, rfl⟩
    have er2 : ((r2 : Int) == 0) = false := by rw [beq_eq_false_iff_ne]; omega
    rw [hr2] at hand
    clear c1 cz hr hno hyes fx hw hv hge hle ce hk hlt53 cf cm hT hr2 hs
    go_enter Try.func48, Try.ntmps48
    go_wp2_with fail
    refine (Z1 _).mono ?_; rintro e w' ⟨rfl, rfl⟩
    go_wp2_with fail
    refine (P1 _).mono ?_; rintro e w' ⟨rfl, rfl⟩
    go_wp2
    go_ret2
    exact ⟨ret_ib HV.out.1.symm HV.out.2.symm, rfl⟩
end Go.Proofs.Qxb6500290a
