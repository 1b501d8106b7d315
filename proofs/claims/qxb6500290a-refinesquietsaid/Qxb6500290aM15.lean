import Derived.Test.Qxb6500290aPm
import Derived.Deep.CutBlock
namespace Go.Proofs.Qxb6500290a
open Go.RowKit
open Ieee (double Datum)
set_option linter.unusedVariables false

/-- The sign's text as the walk meets it: with the sign's bits. -/
theorem sg_text (x : Nat) (hx : x < 18446744073709551616) : (bits .and .u64 (x : Int) 9223372036854775808 = 0 ∧ sgP x = []) ∨ (bits .and .u64 (x : Int) 9223372036854775808 = 9223372036854775808 ∧ sgP x = [45]) := by
  have h := and_sg x hx
  unfold neg at h
  unfold sgP
  by_cases c : 2 ^ 63 ≤ x
  · right; rw [decide_eq_true c] at h; exact ⟨h, if_pos c⟩
  · left; rw [decide_eq_false c] at h; exact ⟨h, if_neg c⟩

theorem below_two {x y z : World} (h : Below x.heap.size x y) (k : Below y.heap.size y z) : Below x.heap.size x z := (Stp.below (b := x.heap.size) (B := x.heap.size) ((Stp.of_below (b := x.heap.size) h).trans ⟨k.os, k.tape, k.output, k.size, fun i hi _ => k.block i hi⟩) (Nat.le_refl _) (Nat.le_refl _))
theorem dec_len {u : Nat} (h : u < 18446744073709551616) : (dec u).length ≤ 20 := by rw [dec_length]; exact (nd_spec _ h).2.2.1
theorem itoaL_len {i : Int} (h1 : -9223372036854775808 ≤ i) (h2 : i ≤ 9223372036854775807) : (itoaL i).length ≤ 21 := by
  have := dec_len (u := i.natAbs) (by omega)
  unfold itoaL
  split
  · simp; omega
  · omega
theorem dec_zero : dec 0 = [48] := by decide +kernel
theorem fin_zero : finP 0 = [48] := by
  unfold finP
  rw [if_pos whole_zero]
  unfold Fl.wholeOf
  rw [magM_zero.2 rfl, Nat.zero_mul, Nat.zero_div, dec_zero]

set_option maxHeartbeats 3200000 in
theorem format_M (p : Value) (x : Nat) (w : World) (hx : x < 18446744073709551616) :
    Calls Try.prog 49 #[p, .int .u64 x] w fun e w' => e = .returned (.string ⟨(fmtP x).toArray⟩) ∧ Below w.heap.size w w' := by
  have N1 := fun w => isNaN_any x w hx
  by_cases cn : 2047 * 2 ^ 52 < x % 2 ^ 63
  · have HV : Hid (fmtP x = [110, 97, 110]) := if_pos cn
    rw [show nanB x = true from decide_eq_true cn] at N1
    clear cn
    go_enter Try.func49, Try.ntmps49
    go_wp2_with fail
    refine (N1 _).mono ?_; rintro e w' ⟨rfl, rfl⟩
    go_wp2
    go_ret
    rw [HV.out]; exact ⟨rfl, Below.refl _ _⟩
  rw [show nanB x = false from decide_eq_false cn] at N1
  have I1 := fun w => isInf_any x w hx
  by_cases ci : x % 2 ^ 63 = 2047 * 2 ^ 52
  · have HV : fmtP x = sgP x ++ [105, 110, 102] := by unfold fmtP; rw [if_neg cn, if_pos ci]
    rw [show infB x = true from decide_eq_true ci] at I1
    clear cn ci
    rcases sg_text x hx with ⟨s1, s2⟩ | ⟨s1, s2⟩
    all_goals
      rw [s2] at HV
      have HV : Hid (fmtP x = _) := HV
      clear s2
      go_enter Try.func49, Try.ntmps49
      go_wp2_with fail
      refine (N1 _).mono ?_; rintro e w' ⟨rfl, rfl⟩
      go_wp2_with fail
      refine (I1 _).mono ?_; rintro e w' ⟨rfl, rfl⟩
      go_wp2
      go_ret
      rw [HV.out]; exact ⟨rfl, Below.refl _ _⟩
  rw [show infB x = false from decide_eq_false ci] at I1
  have Z1 := fun w => isZero_any x w hx
  by_cases cz : x % 2 ^ 63 = 0
  · have HV : fmtP x = sgP x ++ [48] := by
      unfold fmtP; rw [if_neg cn, if_neg ci, cz, fin_zero]
    rw [show zerB x = true from decide_eq_true cz] at Z1
    clear cn ci cz
    rcases sg_text x hx with ⟨s1, s2⟩ | ⟨s1, s2⟩
    all_goals
      rw [s2] at HV
      have HV : Hid (fmtP x = _) := HV
      clear s2
      go_enter Try.func49, Try.ntmps49
      go_wp2_with fail
      refine (N1 _).mono ?_; rintro e w' ⟨rfl, rfl⟩
      go_wp2_with fail
      refine (I1 _).mono ?_; rintro e w' ⟨rfl, rfl⟩
      go_wp2_with fail
      refine (Z1 _).mono ?_; rintro e w' ⟨rfl, rfl⟩
      go_wp2
      go_ret
      rw [HV.out]; exact ⟨rfl, Below.refl _ _⟩
  rw [show zerB x = false from decide_eq_false cz] at Z1
  have fx : x % 2 ^ 63 < 2047 * 2 ^ 52 := by omega
  have zx : 0 < x % 2 ^ 63 := by omega
  have P1 := fun w => parts_any x w hx fx
  have hge := magE_ge (x % 2 ^ 63)
  have hle := magE_le fx
  have hml := magM_lt (x % 2 ^ 63)
  have hmp := magM_pos zx
  have HF : fmtP x = sgP x ++ finP (x % 2 ^ 63) := by unfold fmtP; rw [if_neg cn, if_neg ci]
  have HS : Hid (∀ (k m j : Nat), magM (x % 2 ^ 63) % 2 ^ k = 0 → m = magM (x % 2 ^ 63) / 2 ^ k → m % 2 = 1 → magE (x % 2 ^ 63) + k = (j : Int) → m * 2 ^ j < 9007199254740992 → finP (x % 2 ^ 63) = dec (m * 2 ^ j)) :=
    fun k m j h1 h2 h3 h4 h5 => fin_small fx zx h1 h2 h3 rfl j h4 h5
  have HB : Hid (∀ (k m : Nat), magM (x % 2 ^ 63) % 2 ^ k = 0 → m = magM (x % 2 ^ 63) / 2 ^ k → m % 2 = 1 → (∀ j : Nat, magE (x % 2 ^ 63) + k = (j : Int) → j < 53 → ¬ m * 2 ^ j < 9007199254740992) → finP (x % 2 ^ 63) = dec m ++ [112] ++ itoaL (magE (x % 2 ^ 63) + k)) :=
    fun k m h1 h2 h3 h4 => fin_big fx zx h1 h2 h3 rfl h4
  generalize finP (x % 2 ^ 63) = FP at *
  generalize magM (x % 2 ^ 63) = M at *
  generalize magE (x % 2 ^ 63) = E at *
  clear cn ci cz fx zx
  rcases sg_text x hx with ⟨s1, s2⟩ | ⟨s1, s2⟩
  all_goals
    rw [s2] at HF
    have HF : Hid (fmtP x = _) := HF
    clear s2
    go_enter Try.func49, Try.ntmps49
    go_wp2_with fail
    refine (N1 _).mono ?_; rintro e w' ⟨rfl, rfl⟩
    go_wp2_with fail
    refine (I1 _).mono ?_; rintro e w' ⟨rfl, rfl⟩
    go_wp2_with fail
    refine (Z1 _).mono ?_; rintro e w' ⟨rfl, rfl⟩
    go_wp2_with fail
    refine (P1 _).mono ?_; rintro e w' ⟨rfl, rfl⟩
    go_wp2_with fail
    go_loop [6, 7] (fun a e => ∃ k m : Nat, a = .int .u64 (m : Int) ∧ e = .int .i64 (E + k) ∧ 0 < m ∧ m < 9007199254740992 ∧ k ≤ 53 ∧ Hid (M % 2 ^ k = 0 ∧ m = M / 2 ^ k ∧ m * 2 ^ k = M)) (fun a _ => (intOf a).toNat)
    case atStart => exact ⟨0, M, rfl, by simp, hmp, by omega, by omega, show _ ∧ _ ∧ _ from ⟨by simp [Nat.mod_one], by simp, by simp⟩⟩
    case round =>
      obtain ⟨k, m, rfl, rfl, hm0, hm1, hk, HM⟩ := hrel
      have hand := uand_1 m (by omega)
      rcases Nat.mod_two_eq_zero_or_one m with o | o
      · rw [o] at hand
        obtain ⟨m2, hm2, hm3⟩ : ∃ m2 : Nat, (m : Int) / 2 = (m2 : Int) ∧ m = 2 * m2 := ⟨m / 2, by omega, by omega⟩
        have HM2 : Hid (M % 2 ^ (k + 1) = 0 ∧ m2 = M / 2 ^ (k + 1) ∧ m2 * 2 ^ (k + 1) = M) := by
          have e : m2 * 2 ^ (k + 1) = M := by rw [← HM.out.2.2, hm3, Nat.pow_succ']; rw [← Nat.mul_assoc, Nat.mul_comm m2 2]
          refine show _ ∧ _ ∧ _ from ⟨by rw [← e]; exact Nat.mul_mod_left _ _, by rw [← e, Nat.mul_div_cancel _ (Nat.two_pow_pos _)], e⟩
        have hk2 : k < 53 := by
          have h1 : 1 * 2 ^ k ≤ m * 2 ^ k := Nat.mul_le_mul_right _ hm0
          have h2 := HM.out.2.2
          rcases Nat.lt_or_ge k 53 with c | c
          · exact c
          · have : 2 ^ 53 ≤ 2 ^ k := Nat.pow_le_pow_right (by omega) c
            omega
        have hm4 : 0 < m2 := by omega
        have hm5 : m2 < m := by omega
        clear HM o hm3
        go_wp2_with fail
        go_round
        case rel => exact ⟨k + 1, m2, by go_num, by congr 1; omega, by omega, by omega, by omega, HM2⟩
        case measure => simp [intOf]; omega
      · rw [o] at hand
        have hS := fun j => HS.out k m j HM.out.1 HM.out.2.1 o
        have hB := HB.out k m HM.out.1 HM.out.2.1 o
        by_cases ce : E + (k : Int) < 0
        · have HW : Hid (FP = dec m ++ [112] ++ itoaL (E + k)) := hB (by omega)
          clear hS hB HM o
          go_wp2_with fail
          have l1 := dec_len (u := m) (by omega)
          refine (utoa_any m _ (by omega)).mono ?_; rintro e w1 ⟨rfl, b1⟩
          have b1 : Hid (Below _ _ _) := b1
          go_wp2_with fail
          have l2 := itoaL_len (i := E + k) (by omega) (by omega)
          refine (itoa_any (E + k) _ (by omega) (by omega)).mono ?_; rintro e w2 ⟨rfl, b2⟩
          have b2 : Hid (Below _ _ _) := b2
          go_wp2
          go_ret
          rw [HF.out, HW.out]
          exact ⟨ret_str (by simp [str_append]), below_two b1.out b2.out⟩
        by_cases ce2 : 53 ≤ E + (k : Int)
        · have HW : Hid (FP = dec m ++ [112] ++ itoaL (E + k)) := hB (by omega)
          clear hS hB HM o
          go_wp2_with fail
          have l1 := dec_len (u := m) (by omega)
          refine (utoa_any m _ (by omega)).mono ?_; rintro e w1 ⟨rfl, b1⟩
          have b1 : Hid (Below _ _ _) := b1
          go_wp2_with fail
          have l2 := itoaL_len (i := E + k) (by omega) (by omega)
          refine (itoa_any (E + k) _ (by omega) (by omega)).mono ?_; rintro e w2 ⟨rfl, b2⟩
          have b2 : Hid (Below _ _ _) := b2
          go_wp2
          go_ret
          rw [HF.out, HW.out]
          exact ⟨ret_str (by simp [str_append]), below_two b1.out b2.out⟩
        obtain ⟨j, hj⟩ : ∃ j : Nat, E + (k : Int) = (j : Int) := ⟨(E + (k : Int)).toNat, by omega⟩
        have hj53 : j < 53 := by omega
        obtain ⟨T, hT⟩ : ∃ T : Nat, 2 ^ j = T := ⟨_, rfl⟩
        have hT' : (2 : Int) ^ j = (T : Int) := by rw [← hT]; push_cast; rfl
        have hT1 : 0 < T := by rw [← hT]; exact Nat.two_pow_pos j
        have hT2 : T ≤ 4503599627370496 := by rw [← hT]; exact Nat.pow_le_pow_right (n := 2) (j := 52) (by omega) (by omega)
        obtain ⟨Y, hY⟩ : ∃ Y : Nat, m * T % 18446744073709551616 = Y := ⟨_, rfl⟩
        have hY2 : Y < 18446744073709551616 := by rw [← hY]; exact Nat.mod_lt _ (by decide)
        have hY' : IntKind.u64.wrap ((m : Int) * (T : Int)) = (Y : Int) := by
          rw [← hY, ← wrap_u64]; push_cast; rfl
        obtain ⟨q, hq, hq'⟩ : ∃ q : Nat, Y / T = q ∧ (Y : Int) / (T : Int) = (q : Int) := ⟨Y / T, rfl, by push_cast; rfl⟩
        have hqY : q ≤ Y := by rw [← hq]; exact Nat.div_le_self _ _
        by_cases cX : m * T < 18446744073709551616
        · have hYe : Y = m * T := by rw [← hY]; exact Nat.mod_eq_of_lt cX
          have hqe : m = q := by rw [← hq, hYe]; exact (Nat.mul_div_cancel _ hT1).symm
          subst hqe
          clear hqY
          by_cases c53 : Y < 9007199254740992
          · have HW : Hid (FP = dec Y) := by
              show _ = _
              rw [hS j hj (by rw [hT, ← hYe]; exact c53), hT, hYe]
            clear hS hB HM o cX hYe hY hq hT ce ce2
            rw [hj]
            clear hj HS HB
            go_upto_if 57 with fail
            rw [show decide ((Y : Int) < 9007199254740992) = true from decide_eq_true (by omega)]
            go_wp2_with fail
            have l1 := dec_len (u := Y) (by omega)
            refine (utoa_any Y _ (by omega)).mono ?_; rintro e w1 ⟨rfl, b1⟩
            have b1 : Hid (Below _ _ _) := b1
            go_wp2
            go_ret
            rw [HF.out, HW.out]
            exact ⟨ret_str (by simp [str_append]), b1.out⟩
          · have HW : Hid (FP = dec m ++ [112] ++ itoaL (j : Int)) := by
              rw [← hj]
              refine hB ?_
              intro j' hj' _
              have : j' = j := by omega
              subst this
              rw [hT, ← hYe]; exact c53
            have c54 : 9007199254740992 ≤ Y := by omega
            clear c53; clear hS hB HM o cX hYe hY hq hT ce ce2
            rw [hj]
            clear hj HS HB
            go_upto_if 57 with fail
            rw [show decide ((Y : Int) < 9007199254740992) = false from decide_eq_false (by omega)]
            go_wp2_with fail
            have l1 := dec_len (u := m) (by omega)
            refine (utoa_any m _ (by omega)).mono ?_; rintro e w1 ⟨rfl, b1⟩
            have b1 : Hid (Below _ _ _) := b1
            go_wp2_with fail
            have l2 := itoaL_len (i := (j : Int)) (by omega) (by omega)
            refine (itoa_any (j : Int) _ (by omega) (by omega)).mono ?_; rintro e w2 ⟨rfl, b2⟩
            have b2 : Hid (Below _ _ _) := b2
            go_wp2
            go_ret
            rw [HF.out, HW.out]
            exact ⟨ret_str (by simp [str_append]), below_two b1.out b2.out⟩
        · have hqm : q < m := by
            rw [← hq]
            refine (Nat.div_lt_iff_lt_mul hT1).2 ?_
            omega
          have HW : Hid (FP = dec m ++ [112] ++ itoaL (j : Int)) := by
            rw [← hj]
            refine hB ?_
            intro j' hj' _
            have : j' = j := by omega
            subst this
            rw [hT]; omega
          have dq : ((q : Int) == (m : Int)) = false := by rw [beq_eq_false_iff_ne]; omega
          clear hS hB HM o cX hY hq hT ce ce2
          go_wp2_with fail
          have l1 := dec_len (u := m) (by omega)
          refine (utoa_any m _ (by omega)).mono ?_; rintro e w1 ⟨rfl, b1⟩
          have b1 : Hid (Below _ _ _) := b1
          go_wp2_with fail
          have l2 := itoaL_len (i := (j : Int)) (by omega) (by omega)
          refine (itoa_any (j : Int) _ (by omega) (by omega)).mono ?_; rintro e w2 ⟨rfl, b2⟩
          have b2 : Hid (Below _ _ _) := b2
          go_wp2
          go_ret
          rw [HF.out, HW.out]
          exact ⟨ret_str (by simp [str_append]), below_two b1.out b2.out⟩
end Go.Proofs.Qxb6500290a
