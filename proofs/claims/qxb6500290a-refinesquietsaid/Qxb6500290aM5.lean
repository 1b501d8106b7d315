import Derived.Test.Qxb6500290aM4
namespace Go.Proofs.Qxb6500290a
open Go.RowKit
open Ieee (double)
set_option linter.unusedVariables false

/-- What the two words' tests say, as the walk of div meets them. -/
structure DivIn (a b ma mb : Nat) (ea eb : Int) : Prop where
  N1 : ∀ w, Calls Try.prog 61 #[.int .u64 a, .int .u64 b] w fun e w' => e = .returned (.bool false) ∧ w' = w
  I1 : ∀ w, Calls Try.prog 67 #[.int .u64 a] w fun e w' => e = .returned (.bool false) ∧ w' = w
  I2 : ∀ w, Calls Try.prog 67 #[.int .u64 b] w fun e w' => e = .returned (.bool false) ∧ w' = w
  Z2 : ∀ w, Calls Try.prog 65 #[.int .u64 b] w fun e w' => e = .returned (.bool false) ∧ w' = w
  Z1 : ∀ w, Calls Try.prog 65 #[.int .u64 a] w fun e w' => e = .returned (.bool false) ∧ w' = w
  P1 : ∀ w, Calls Try.prog 66 #[.int .u64 a] w fun e w' => e = .returned (.tuple #[.int .u64 (ma : Nat), .int .i64 ea]) ∧ w' = w
  P2 : ∀ w, Calls Try.prog 66 #[.int .u64 b] w fun e w' => e = .returned (.tuple #[.int .u64 (mb : Nat), .int .i64 eb]) ∧ w' = w

theorem sub_succ (i : Int) (z : Nat) : i - (z : Int) - 1 = i - ((z + 1 : Nat) : Int) := by omega
theorem bne_cast (r : Nat) : ((r : Int) != 0) = (r != 0) := by
  by_cases c : r = 0
  · subst c; rfl
  · rw [show (r != 0) = true from by simp [c]]; simp; omega
/-- The long division, t digits on. -/
structure Lng (A B t q r : Nat) : Prop where
  eq : A * 2 ^ t = 2 * q * B + r
  lt : r < 2 * B
  q : q < 2 ^ t
theorem Lng.start {A B : Nat} (h : A < 2 * B) : Lng A B 0 0 A := ⟨by simp, h, by simp⟩
theorem Lng.less {A B t q r : Nat} (h : Lng A B t q r) (c : r < B) : Lng A B (t + 1) (2 * q) (r * 2) := by
  refine ⟨?_, by omega, ?_⟩
  · rw [Nat.pow_succ, ← Nat.mul_assoc, h.eq, Nat.add_mul, Nat.mul_right_comm, Nat.mul_comm (2 * q) 2]
  · have := h.q; rw [Nat.pow_succ]; omega
theorem Lng.more {A B t q r : Nat} (h : Lng A B t q r) (c : B ≤ r) : Lng A B (t + 1) (2 * q + 1) ((r - B) * 2) := by
  refine ⟨?_, by have := h.lt; omega, ?_⟩
  · have e := h.eq
    rw [Nat.pow_succ, ← Nat.mul_assoc, e, Nat.add_mul, Nat.mul_right_comm, Nat.mul_comm (2 * q) 2, Nat.mul_add 2 (2 * q) 1, Nat.add_mul]
    omega
  · have := h.q; rw [Nat.pow_succ]; omega
theorem Lng.done {A B q r : Nat} (h : Lng A B 63 q r) (hB : 0 < B) : q = A * 2 ^ 62 / B ∧ (r != 0) = (A * 2 ^ 62 % B != 0) := by
  have e := h.eq
  have l := h.lt
  rw [Nat.mul_assoc, show (2 : Nat) ^ 63 = 2 ^ 62 * 2 from rfl, ← Nat.mul_assoc] at e
  have e2 : A * 2 ^ 62 = r / 2 + q * B := by
    generalize A * 2 ^ 62 = Y at *
    generalize q * B = X at *
    omega
  have hlt : r / 2 < B := by omega
  have h1 : A * 2 ^ 62 / B = q := by rw [e2, Nat.add_mul_div_right _ _ hB, Nat.div_eq_of_lt hlt, Nat.zero_add]
  have h2 : A * 2 ^ 62 % B = r / 2 := by rw [e2, Nat.add_mul_mod_self_right, Nat.mod_eq_of_lt hlt]
  rw [h1, h2]
  refine ⟨rfl, ?_⟩
  by_cases c : r = 0
  · subst c; rfl
  · rw [show (r != 0) = true from by simp [c], show (r / 2 != 0) = true from by simp; omega]

theorem or_one (q : Nat) (h : q < 9223372036854775808) : bits .or .u64 ((q : Int) * 2) 1 = ((2 * q + 1 : Nat) : Int) := by
  have := u64_or_nat (2 * q) 1 (by omega) (by omega)
  rw [show ((2 * q : Nat) : Int) = (q : Int) * 2 from by omega, nat_join1 _ _ (by omega) (by omega)] at this
  exact this

set_option maxHeartbeats 3200000 in
theorem div_walk (a b m n : Nat) (i j : Int) (s : Bool) (w : World) (HI : Hid (DivIn a b m n i j)) (c : Nat) (hc : c < 18446744073709551616) (hx : bits .xor .u64 (a : Int) (b : Int) = (c : Int)) (hs : bits .and .u64 (c : Int) 9223372036854775808 = (sgW s : Int))
    (hm : m < 9007199254740992) (hn : n < 9007199254740992) (hm0 : 0 < m) (hn0 : 0 < n) (hi1 : -1074 ≤ i) (hi : i ≤ 1000) (hj1 : -1074 ≤ j) (hj : j ≤ 1000)
    (V : Nat) (HV : Hid (∀ z y : Nat, z ≤ 52 → y ≤ 52 → 4503599627370496 ≤ m * 2 ^ z → m * 2 ^ z < 9007199254740992 → 4503599627370496 ≤ n * 2 ^ y → n * 2 ^ y < 9007199254740992 → V = Fl.packP s (m * 2 ^ z * 2 ^ 62 / (n * 2 ^ y)) (i - z - (j - y) - 62) (m * 2 ^ z * 2 ^ 62 % (n * 2 ^ y) != 0) ∧ 2 ^ 53 ≤ m * 2 ^ z * 2 ^ 62 / (n * 2 ^ y))) :
    Calls Try.prog 58 #[.int .u64 a, .int .u64 b] w fun e w' => e = .returned (.int .u64 (V : Nat)) ∧ w' = w := by
  have hss := sgW_lt s
  generalize hSS : sgW s = SS at *
  go_enter Try.func58, Try.ntmps58
  go_wp2_with fail
  refine (HI.out.N1 _).mono ?_; rintro e w' ⟨rfl, rfl⟩
  go_wp2_with fail
  refine (HI.out.I1 _).mono ?_; rintro e w' ⟨rfl, rfl⟩
  go_wp2_with fail
  refine (HI.out.I2 _).mono ?_; rintro e w' ⟨rfl, rfl⟩
  go_wp2_with fail
  refine (HI.out.Z2 _).mono ?_; rintro e w' ⟨rfl, rfl⟩
  go_wp2_with fail
  refine (HI.out.Z1 _).mono ?_; rintro e w' ⟨rfl, rfl⟩
  go_wp2_with fail
  refine (HI.out.P1 _).mono ?_; rintro e w' ⟨rfl, rfl⟩
  go_wp2_with fail
  refine (HI.out.P2 _).mono ?_; rintro e w' ⟨rfl, rfl⟩
  go_wp2_with fail
  go_loop [6, 7] (fun x e => ∃ z A : Nat, x = .int .u64 (A : Int) ∧ e = .int .i64 (i - z) ∧ 0 < A ∧ A < 9007199254740992 ∧ z ≤ 52 ∧ Hid (A = m * 2 ^ z)) (fun x _ => 9007199254740992 - (intOf x).toNat)
  case atStart => exact ⟨0, m, rfl, by simp, hm0, hm, by omega, show m = m * 2 ^ 0 by simp⟩
  case round =>
    obtain ⟨z, A, rfl, rfl, hA0, hA, hz, HA⟩ := hrel
    by_cases cA : A < 4503599627370496
    · have d1 : decide ((A : Int) < 4503599627370496) = true := decide_eq_true (by omega)
      have hz2 : z < 52 := by
        have h1 : 1 * 2 ^ z ≤ m * 2 ^ z := Nat.mul_le_mul_right _ hm0
        have h2 := HA.out
        rcases Nat.lt_or_ge z 52 with c | c
        · exact c
        · have : 2 ^ 52 ≤ 2 ^ z := Nat.pow_le_pow_right (by omega) c
          omega
      have HA2 : Hid (A * 2 = m * 2 ^ (z + 1)) := by show _ = _; rw [Nat.pow_succ, ← Nat.mul_assoc, ← HA.out]
      go_wp2_with fail
      go_round
      case rel => exact ⟨z + 1, A * 2, by go_num, by rw [sub_succ], by omega, by omega, by omega, HA2⟩
      case measure => simp [intOf]; omega
    · have d1 : decide ((A : Int) < 4503599627370496) = false := decide_eq_false (by omega)
      go_wp2_with fail
      go_loop [8, 9] (fun x e => ∃ y B : Nat, x = .int .u64 (B : Int) ∧ e = .int .i64 (j - y) ∧ 0 < B ∧ B < 9007199254740992 ∧ y ≤ 52 ∧ Hid (B = n * 2 ^ y)) (fun x _ => 9007199254740992 - (intOf x).toNat)
      case atStart => exact ⟨0, n, rfl, by simp, hn0, hn, by omega, show n = n * 2 ^ 0 by simp⟩
      case round =>
        obtain ⟨y, B, rfl, rfl, hB0, hB, hy, HB⟩ := hrel
        by_cases cB : B < 4503599627370496
        · have d2 : decide ((B : Int) < 4503599627370496) = true := decide_eq_true (by omega)
          have hy2 : y < 52 := by
            have h1 : 1 * 2 ^ y ≤ n * 2 ^ y := Nat.mul_le_mul_right _ hn0
            have h2 := HB.out
            rcases Nat.lt_or_ge y 52 with c | c
            · exact c
            · have : 2 ^ 52 ≤ 2 ^ y := Nat.pow_le_pow_right (by omega) c
              omega
          have HB2 : Hid (B * 2 = n * 2 ^ (y + 1)) := by show _ = _; rw [Nat.pow_succ, ← Nat.mul_assoc, ← HB.out]
          go_wp2_with fail
          go_round
          case rel => exact ⟨y + 1, B * 2, by go_num, by rw [sub_succ], by omega, by omega, by omega, HB2⟩
          case measure => simp [intOf]; omega
        · have d2 : decide ((B : Int) < 4503599627370496) = false := decide_eq_false (by omega)
          have HW : Hid (V = Fl.packP s (A * 2 ^ 62 / B) (i - z - (j - y) - 62) (A * 2 ^ 62 % B != 0) ∧ 2 ^ 53 ≤ A * 2 ^ 62 / B) := by
            have := HV.out z y hz hy (by rw [← HA.out]; omega) (by rw [← HA.out]; omega) (by rw [← HB.out]; omega) (by rw [← HB.out]; omega)
            rw [← HA.out, ← HB.out] at this
            exact this
          clear HV HA HB d1
          go_wp2_with fail
          clear d2
          go_loop [10, 11, 12] (fun x e u => ∃ t q r : Nat, x = .int .u64 (q : Int) ∧ e = .int .u64 (r : Int) ∧ u = .int .i64 (t : Int) ∧ t ≤ 63 ∧ r < 18014398509481984 ∧ q < 9223372036854775808 ∧ Hid (Lng A B t q r)) (fun _ _ u => 63 - (intOf u).toNat)
          case atStart => exact ⟨0, 0, A, rfl, rfl, rfl, by omega, by omega, by omega, Lng.start (by omega)⟩
          case round =>
            obtain ⟨t, q, r, rfl, rfl, rfl, ht, hr, hq, HL⟩ := hrel
            by_cases ct : t < 63
            · have hq2 : q < 4611686018427387904 := Nat.lt_of_lt_of_le HL.out.q (Nat.pow_le_pow_right (by omega) (by omega : t ≤ 62))
              by_cases cr : r < B
              · have HL2 : Hid (Lng A B (t + 1) (2 * q) (r * 2)) := HL.out.less cr
                have cr' : decide ((B : Int) ≤ (r : Int)) = false := decide_eq_false (by omega)
                go_wp2_with fail
                go_round
                case rel => exact ⟨t + 1, 2 * q, r * 2, by go_num, by go_num, by go_num, by omega, by omega, by omega, HL2⟩
                case measure => simp [intOf]; omega
              · have HL2 : Hid (Lng A B (t + 1) (2 * q + 1) ((r - B) * 2)) := HL.out.more (by omega)
                have cr' : decide ((B : Int) ≤ (r : Int)) = true := decide_eq_true (by omega)
                have ho := or_one q (by omega)
                obtain ⟨q2, hq3⟩ : ∃ q2, 2 * q + 1 = q2 := ⟨_, rfl⟩
                have hr2 : (r - B) * 2 < 18014398509481984 := by have := HL.out.lt; omega
                obtain ⟨r2, hr3, hr4⟩ : ∃ r2 : Nat, (r : Int) - (B : Int) = (r2 : Int) ∧ r2 = r - B := ⟨r - B, by omega, rfl⟩
                rw [← hr4] at HL2 hr2
                rw [hq3] at HL2 ho
                have hq5 : q2 < 9223372036854775808 := by omega
                clear hq3 hr4
                go_wp2_with fail
                go_round
                case rel => exact ⟨t + 1, q2, r2 * 2, by go_num, by go_num, by go_num, by omega, by omega, by omega, HL2⟩
                case measure => simp [intOf]; omega
            · have ht2 : t = 63 := by omega
              subst ht2
              have hd := HL.out.done hB0
              have HW2 : Hid (V = Fl.packP s q (i - z - (j - y) - 62) (r != 0) ∧ 2 ^ 53 ≤ q) := by
                have := HW.out
                rw [← hd.1, ← hd.2] at this; exact this
              clear HW hd
              go_wp2_with fail
              refine (pack_int s _ _ _ (i - z - (j - y) - 62) q _ (r != 0) _ (by rw [hSS]) rfl rfl (bne_cast r) (by omega) (by omega) (by omega) (fun _ => HW2.out.2)).mono ?_; rintro e w' ⟨rfl, rfl⟩
              go_wp2
              go_ret
              rw [HW2.out.1]; exact ⟨rfl, rfl⟩

theorem div_gen (a b : Nat) (w : World) (ha : a < 18446744073709551616) (hb : b < 18446744073709551616) (fa : a % 2 ^ 63 < 2047 * 2 ^ 52) (fb : b % 2 ^ 63 < 2047 * 2 ^ 52) (za : 0 < a % 2 ^ 63) (zb : 0 < b % 2 ^ 63) :
    Calls Try.prog 58 #[.int .u64 a, .int .u64 b] w fun e w' => e = .returned (.int .u64 (divW a b : Nat)) ∧ w' = w := by
  have n1 : nanB a = false := decide_eq_false (by omega)
  have n2 : nanB b = false := decide_eq_false (by omega)
  have i1 : infB a = false := decide_eq_false (by omega)
  have i2 : infB b = false := decide_eq_false (by omega)
  have z1 : zerB a = false := decide_eq_false (by omega)
  have z2 : zerB b = false := decide_eq_false (by omega)
  have N1 := fun w => anyNaN_any a b w ha hb
  rw [n1, n2] at N1
  have I1 := fun w => isInf_any a w ha
  rw [i1] at I1
  have I2 := fun w => isInf_any b w hb
  rw [i2] at I2
  have Z1 := fun w => isZero_any a w ha
  rw [z1] at Z1
  have Z2 := fun w => isZero_any b w hb
  rw [z2] at Z2
  have HI : DivIn a b (magM (a % 2 ^ 63)) (magM (b % 2 ^ 63)) (magE (a % 2 ^ 63)) (magE (b % 2 ^ 63)) :=
    ⟨N1, I1, I2, Z2, Z1, fun w => parts_any a w ha fa, fun w => parts_any b w hb fb⟩
  have HV := divW_fin ha hb fa fb za zb
  obtain ⟨c, hc, hx, hs, _, _⟩ := xor_sg a b ha hb
  have hma := magM_lt (a % 2 ^ 63)
  have hmb := magM_lt (b % 2 ^ 63)
  have hpa := magM_pos za
  have hpb := magM_pos zb
  have hea := magE_ge (a % 2 ^ 63)
  have heb := magE_ge (b % 2 ^ 63)
  have hea2 := magE_le fa
  have heb2 := magE_le fb
  refine div_walk a b _ _ _ _ _ w HI c hc hx hs (by omega) (by omega) hpa hpb hea (by omega) heb (by omega) _ ?_
  generalize magM (a % 2 ^ 63) = m at *
  generalize magM (b % 2 ^ 63) = n at *
  generalize magE (a % 2 ^ 63) = i at *
  generalize magE (b % 2 ^ 63) = j at *
  intro z y hz hy l1 l2 l3 l4
  have hpy : 0 < 2 ^ y := Nat.two_pow_pos y
  have e0 : m * 2 ^ z * 2 ^ 62 = m * 2 ^ (62 + z - y) * 2 ^ y := by
    rw [Nat.mul_assoc, Nat.mul_assoc, ← Nat.pow_add, ← Nat.pow_add, show z + 62 = 62 + z - y + y from by omega]
  have hq : 2 ^ 53 ≤ m * 2 ^ z * 2 ^ 62 / (n * 2 ^ y) := by
    rw [Nat.le_div_iff_mul_le (by omega)]
    generalize m * 2 ^ z = A at *
    generalize n * 2 ^ y = B at *
    omega
  rw [e0, Nat.mul_div_mul_right _ _ hpy] at hq ⊢
  rw [Nat.mul_mod_mul_right]
  refine ⟨?_, hq⟩
  rw [HV (62 + z - y) hq]
  have e3 : (m * 2 ^ (62 + z - y) % n * 2 ^ y != 0) = (m * 2 ^ (62 + z - y) % n != 0) := by
    generalize m * 2 ^ (62 + z - y) % n = R
    by_cases r0 : R = 0
    · subst r0; rw [Nat.zero_mul]
    · have : 0 < R * 2 ^ y := Nat.mul_pos (Nat.pos_of_ne_zero r0) hpy
      rw [show (R != 0) = true from by simp [r0]]; simp; omega
  rw [e3]
  congr 1; omega

set_option maxHeartbeats 3200000 in
theorem div_any (a b : Nat) (w : World) (ha : a < 18446744073709551616) (hb : b < 18446744073709551616) :
    Calls Try.prog 58 #[.int .u64 a, .int .u64 b] w fun e w' => e = .returned (.int .u64 (divW a b : Nat)) ∧ w' = w := by
  have N1 := fun w => anyNaN_any a b w ha hb
  by_cases cn : 2047 * 2 ^ 52 < a % 2 ^ 63 ∨ 2047 * 2 ^ 52 < b % 2 ^ 63
  · have HV : Hid (divW a b = nanV) := divW_nan cn
    rw [show (nanB a || nanB b) = true from by unfold nanB; rcases cn with h | h <;> simp [h]] at N1
    clear cn
    go_enter Try.func58, Try.ntmps58
    go_wp2_with fail
    refine (N1 _).mono ?_; rintro e w' ⟨rfl, rfl⟩
    go_wp2
    go_ret
    rw [HV.out]; exact ⟨rfl, rfl⟩
  rw [show (nanB a || nanB b) = false from by unfold nanB; simp; omega] at N1
  obtain ⟨c, hc, hx, hs, _, _⟩ := xor_sg a b ha hb
  have hss := sgW_lt (neg a ^^ neg b)
  have hor := or_inf (neg a ^^ neg b)
  have hw0 := sgW_word (neg a ^^ neg b)
  have I1 := fun w => isInf_any a w ha
  have I2 := fun w => isInf_any b w hb
  have Z1 := fun w => isZero_any a w ha
  have Z2 := fun w => isZero_any b w hb
  by_cases ia : a % 2 ^ 63 = 2047 * 2 ^ 52
  · rw [show infB a = true from decide_eq_true ia] at I1
    by_cases ib : b % 2 ^ 63 = 2047 * 2 ^ 52
    · rw [show infB b = true from decide_eq_true ib] at I2
      have HV : Hid (divW a b = nanV) := divW_inf_inf ha hb ia ib
      clear cn ia ib hor hw0
      generalize sgW (neg a ^^ neg b) = SS at *
      go_enter Try.func58, Try.ntmps58
      go_wp2_with fail
      refine (N1 _).mono ?_; rintro e w' ⟨rfl, rfl⟩
      go_wp2_with fail
      refine (I1 _).mono ?_; rintro e w' ⟨rfl, rfl⟩
      go_wp2_with fail
      refine (I2 _).mono ?_; rintro e w' ⟨rfl, rfl⟩
      go_wp2
      go_ret
      rw [HV.out]; exact ⟨rfl, rfl⟩
    · rw [show infB b = false from decide_eq_false ib] at I2
      have HV : Hid (divW a b = double.word (neg a ^^ neg b) 9218868437227405312) := divW_inf_fin ha hb ia (by omega)
      clear cn ia ib hw0
      generalize double.word (neg a ^^ neg b) 9218868437227405312 = V at *
      generalize sgW (neg a ^^ neg b) = SS at *
      go_enter Try.func58, Try.ntmps58
      go_wp2_with fail
      refine (N1 _).mono ?_; rintro e w' ⟨rfl, rfl⟩
      go_wp2_with fail
      refine (I1 _).mono ?_; rintro e w' ⟨rfl, rfl⟩
      go_wp2_with fail
      refine (I2 _).mono ?_; rintro e w' ⟨rfl, rfl⟩
      go_wp2
      go_ret
      rw [HV.out]; exact ⟨by first | rfl | rw [hor], rfl⟩
  rw [show infB a = false from decide_eq_false ia] at I1
  by_cases ib : b % 2 ^ 63 = 2047 * 2 ^ 52
  · rw [show infB b = true from decide_eq_true ib] at I2
    have HV : Hid (divW a b = sgW (neg a ^^ neg b)) := by rw [hw0]; exact divW_fin_inf ha hb (by omega) ib
    clear cn ia ib hor hw0
    generalize sgW (neg a ^^ neg b) = SS at *
    go_enter Try.func58, Try.ntmps58
    go_wp2_with fail
    refine (N1 _).mono ?_; rintro e w' ⟨rfl, rfl⟩
    go_wp2_with fail
    refine (I1 _).mono ?_; rintro e w' ⟨rfl, rfl⟩
    go_wp2_with fail
    refine (I2 _).mono ?_; rintro e w' ⟨rfl, rfl⟩
    go_wp2
    go_ret
    rw [HV.out]; exact ⟨rfl, rfl⟩
  rw [show infB b = false from decide_eq_false ib] at I2
  by_cases zb : b % 2 ^ 63 = 0
  · rw [show zerB b = true from decide_eq_true zb] at Z2
    have HV := divW_by_zero ha hb (by omega) zb
    by_cases za : a % 2 ^ 63 = 0
    · rw [show zerB a = true from decide_eq_true za] at Z1
      rw [if_pos za] at HV
      have HV : Hid (divW a b = nanV) := HV
      clear cn ia ib hor hw0 za zb
      generalize sgW (neg a ^^ neg b) = SS at *
      go_enter Try.func58, Try.ntmps58
      go_wp2_with fail
      refine (N1 _).mono ?_; rintro e w' ⟨rfl, rfl⟩
      go_wp2_with fail
      refine (I1 _).mono ?_; rintro e w' ⟨rfl, rfl⟩
      go_wp2_with fail
      refine (I2 _).mono ?_; rintro e w' ⟨rfl, rfl⟩
      go_wp2_with fail
      refine (Z2 _).mono ?_; rintro e w' ⟨rfl, rfl⟩
      go_wp2_with fail
      refine (Z1 _).mono ?_; rintro e w' ⟨rfl, rfl⟩
      go_wp2
      go_ret
      rw [HV.out]; exact ⟨rfl, rfl⟩
    · rw [show zerB a = false from decide_eq_false za] at Z1
      rw [if_neg za] at HV
      have HV : Hid (divW a b = double.word (neg a ^^ neg b) 9218868437227405312) := HV
      clear cn ia ib hw0 za zb
      generalize double.word (neg a ^^ neg b) 9218868437227405312 = V at *
      generalize sgW (neg a ^^ neg b) = SS at *
      go_enter Try.func58, Try.ntmps58
      go_wp2_with fail
      refine (N1 _).mono ?_; rintro e w' ⟨rfl, rfl⟩
      go_wp2_with fail
      refine (I1 _).mono ?_; rintro e w' ⟨rfl, rfl⟩
      go_wp2_with fail
      refine (I2 _).mono ?_; rintro e w' ⟨rfl, rfl⟩
      go_wp2_with fail
      refine (Z2 _).mono ?_; rintro e w' ⟨rfl, rfl⟩
      go_wp2_with fail
      refine (Z1 _).mono ?_; rintro e w' ⟨rfl, rfl⟩
      go_wp2
      go_ret
      rw [HV.out]; exact ⟨by first | rfl | rw [hor], rfl⟩
  rw [show zerB b = false from decide_eq_false zb] at Z2
  by_cases za : a % 2 ^ 63 = 0
  · rw [show zerB a = true from decide_eq_true za] at Z1
    have HV : Hid (divW a b = sgW (neg a ^^ neg b)) := by rw [hw0]; exact divW_zero ha hb za (by omega) (by omega)
    clear cn ia ib hor hw0 za zb
    generalize sgW (neg a ^^ neg b) = SS at *
    go_enter Try.func58, Try.ntmps58
    go_wp2_with fail
    refine (N1 _).mono ?_; rintro e w' ⟨rfl, rfl⟩
    go_wp2_with fail
    refine (I1 _).mono ?_; rintro e w' ⟨rfl, rfl⟩
    go_wp2_with fail
    refine (I2 _).mono ?_; rintro e w' ⟨rfl, rfl⟩
    go_wp2_with fail
    refine (Z2 _).mono ?_; rintro e w' ⟨rfl, rfl⟩
    go_wp2_with fail
    refine (Z1 _).mono ?_; rintro e w' ⟨rfl, rfl⟩
    go_wp2
    go_ret
    rw [HV.out]; exact ⟨rfl, rfl⟩
  exact div_gen a b w ha hb (by omega) (by omega) (by omega) (by omega)
end Go.Proofs.Qxb6500290a
