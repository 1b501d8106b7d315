import Derived.Test.Qxb6500290aW5
namespace Go.Proofs.Qxb6500290a
open Go.RowKit
open Ieee (double)
attribute [local go_sem] run_frombits run_tobits run_negf

set_option maxHeartbeats 400000 in
theorem bits_num (r : Nat) (w : World) (h : FloatKind.f64.format.order r r = some .eq) :
    Calls Try.prog 36 #[.float .f64 r] w fun e w' => e = .returned (.int .u64 r) ∧ w' = w := by
  go_enter Try.func36, Try.ntmps36
  go_wp2
  go_ret
  exact ⟨rfl, rfl⟩

set_option maxHeartbeats 800000 in
theorem arith_valid (p : Value) (op : Int) (bop : BinOp) (hop : (op = 1 ∧ bop = .add) ∨ (op = 2 ∧ bop = .sub) ∨ (op = 3 ∧ bop = .mul) ∨ (op = 4 ∧ bop = .quo)) (a b r : Nat) (w : World)
    (h : floatBits bop .f64 a b = some r) (hr : FloatKind.f64.format.order r r = some .eq) :
    Calls Try.prog 30 #[p, .int .i64 op, .int .u64 a, .int .u64 b] w fun e w' => e = .returned (.int .u64 r) ∧ w' = w := by
  have hb := fun w => bits_num r w hr
  rcases hop with ⟨rfl, rfl⟩ | ⟨rfl, rfl⟩ | ⟨rfl, rfl⟩ | ⟨rfl, rfl⟩
  all_goals
    have q := fun w => run_float_arith (P := Try.prog) w _ 58 .f64 a b r h
    clear h hr
    go_enter Try.func30, Try.ntmps30
    go_wp2_with (go_at_call 36; refine (hb _).mono ?_; rintro e w' ⟨rfl, rfl⟩)
    go_ret
    exact ⟨rfl, rfl⟩

theorem nearest_true (m : Nat) (e : Int) : double.nearest true m e = 2 ^ 63 + double.nearest false m e := by
  by_cases h0 : m = 0
  · subst h0; rw [Fl.nearest_zero, Fl.nearest_zero, Fl.word_true, Fl.word_false]
  · rw [Fl.nearest_eq _ _ _ h0, Fl.nearest_eq _ _ _ h0, Fl.word_true, Fl.word_false]
theorem xor_nearest (m : Nat) (e : Int) : bits .xor .u64 ((double.nearest false m e : Nat) : Int) 9223372036854775808 = ((double.nearest true m e : Nat) : Int) := by
  have h := Fl.nearest_false_le m e
  rw [u64_xor_sign _ (by omega), xor_word _ (by omega), nearest_true]
theorem order_nearest (s : Bool) (m : Nat) (e : Int) : FloatKind.f64.format.order (double.nearest s m e) (double.nearest s m e) = some .eq := by
  have h := Fl.nearest_false_le m e
  cases s
  · exact order_self _ (by omega) (by omega)
  · rw [nearest_true]; exact order_self _ (by omega) (by omega)
theorem dec_one : dec 1 = [49] := by decide +kernel

set_option maxHeartbeats 1600000 in
theorem keptShift_any (n b m : Nat) (e f : Int) (w : World) (hn : NumW n b w) (hm : m ≤ 2 ^ 53) (he : -1074 ≤ e) (he2 : e ≤ 9998) (hf1 : -9223372036854775808 ≤ f) (hf2 : f ≤ 9223372036854775807) :
    Calls Try.prog 52 #[.pointer (some ⟨n, 0, none⟩), .string ⟨(dec m).toArray⟩, .int .i64 e, .int .i64 f, .int .u64 (double.nearest false m e : Nat)] w (Kp n b w) := by
  have hv := Fl.nearest_false_le m e
  have e0 := andNot_sign (double.nearest false m e) (by omega)
  rw [Nat.mod_eq_of_lt (by omega)] at e0
  by_cases c1 : double.nearest false m e = 2047 * 2 ^ 52
  · have hge : decide (9218868437227405312 ≤ ((double.nearest false m e : Nat) : Int)) = true := decide_eq_true (by omega)
    clear c1
    generalize double.nearest false m e = V at *
    go_enter Try.func52, Try.ntmps52
    go_wp2
    go_ret
    exact kp_mk rfl (Stp.refl _ _) hn
  have ht : m ≠ 0 → e + m.log2 < 1024 := by
    intro h0
    by_cases c : e + m.log2 < 1024
    · exact c
    · exact absurd (by rw [Fl.nearest_inf false m e h0 (by omega), Fl.word_false]) c1
  have hlt : decide (9218868437227405312 ≤ ((double.nearest false m e : Nat) : Int)) = false := decide_eq_false (by omega)
  by_cases c2 : f < -1074
  · clear ht c1
    generalize double.nearest false m e = V at *
    go_enter Try.func52, Try.ntmps52
    go_wp2
    go_ret
    exact kp_mk rfl (Stp.refl _ _) hn
  by_cases c3 : 1023 < f
  · clear ht c1
    generalize double.nearest false m e = V at *
    go_enter Try.func52, Try.ntmps52
    go_wp2
    go_ret
    exact kp_mk rfl (Stp.refl _ _) hn
  by_cases c4 : 1023 < e
  · clear ht c1
    generalize double.nearest false m e = V at *
    go_enter Try.func52, Try.ntmps52
    go_wp2
    go_ret
    exact kp_mk rfl (Stp.refl _ _) hn
  -- the four operations
  have A1 := fun w => arith_valid (.pointer (some ⟨n, 0, none⟩)) 3 .mul (by simp) _ _ _ w (Fl.mul_pow2 false m e f hm he ht (by omega) (by omega)) (order_nearest _ _ _)
  have A2 := fun w => arith_valid (.pointer (some ⟨n, 0, none⟩)) 4 .quo (by simp) _ _ _ w (Fl.div_pow2 false m e f hm he ht (by omega) (by omega)) (order_nearest _ _ _)
  have A3 := fun w => arith_valid (.pointer (some ⟨n, 0, none⟩)) 3 .mul (by simp) _ _ _ w (Fl.mul_pow2 true m e f hm he ht (by omega) (by omega)) (order_nearest _ _ _)
  have A4 := fun w => arith_valid (.pointer (some ⟨n, 0, none⟩)) 4 .quo (by simp) _ _ _ w (Fl.div_pow2 true m e f hm he ht (by omega) (by omega)) (order_nearest _ _ _)
  have X1 := xor_nearest m e
  have X2 := xor_nearest m (e + f)
  have X3 := xor_nearest m (e - f)
  -- the three texts
  have P1 := parse_pow 1 f (by decide) (by omega) (by omega)
  have P2 := parse_pow m (e + f) hm (by omega) (by omega)
  have P3 := parse_pow m (e - f) hm (by omega) (by omega)
  have L1 := itoa_length (e := f) (by omega) (by omega)
  have L2 := itoa_length (e := e + f) (by omega) (by omega)
  have L3 := itoa_length (e := e - f) (by omega) (by omega)
  have L0 := dec_len16 hm
  have C1 : ({ data := #[49, 112] } : ByteArray) ++ { data := (itoaL f).toArray } = ⟨(dec 1 ++ 112 :: itoaL f).toArray⟩ := by
    rw [dec_one]; exact str_append [49, 112] (itoaL f)
  have C2 : ({ data := (dec m).toArray } : ByteArray) ++ { data := #[112] } ++ { data := (itoaL (e + f)).toArray } = ⟨(dec m ++ 112 :: itoaL (e + f)).toArray⟩ := by
    have := str_append (dec m) [112]
    rw [this, str_append]; simp
  have C3 : ({ data := (dec m).toArray } : ByteArray) ++ { data := #[112] } ++ { data := (itoaL (e - f)).toArray } = ⟨(dec m ++ 112 :: itoaL (e - f)).toArray⟩ := by
    have := str_append (dec m) [112]
    rw [this, str_append]; simp
  have M1 : (dec 1 ++ 112 :: itoaL f).length ≤ 9223372036854775807 := by rw [dec_one]; simp; omega
  have M2 : (dec m ++ 112 :: itoaL (e + f)).length ≤ 9223372036854775807 := by simp; omega
  have M3 : (dec m ++ 112 :: itoaL (e - f)).length ≤ 9223372036854775807 := by simp; omega
  have Q1 := fun w => parse_any (.pointer (some ⟨n, 0, none⟩)) _ w M1
  have Q2 := fun w => parse_any (.pointer (some ⟨n, 0, none⟩)) _ w M2
  have Q3 := fun w => parse_any (.pointer (some ⟨n, 0, none⟩)) _ w M3
  unfold ParseEnd at Q1 Q2 Q3
  rw [P1] at Q1
  rw [P2] at Q2
  rw [P3] at Q3
  generalize dec 1 ++ 112 :: itoaL f = S1 at *
  generalize dec m ++ 112 :: itoaL (e + f) = S2 at *
  generalize dec m ++ 112 :: itoaL (e - f) = S3 at *
  have I1 := fun w => itoa_any f w hf1 hf2
  have I2 := fun w => itoa_any (e + f) w (by omega) (by omega)
  have I3 := fun w => itoa_any (e - f) w (by omega) (by omega)
  generalize double.nearest false m e = V at *
  generalize double.nearest true m e = V' at *
  generalize double.nearest false m (e + f) = U at *
  generalize double.nearest true m (e + f) = U' at *
  generalize double.nearest false m (e - f) = D at *
  generalize double.nearest true m (e - f) = D' at *
  generalize double.nearest false 1 f = P at *
  clear ht c1 P1 P2 P3 M1 M2 M3
  go_enter Try.func52, Try.ntmps52
  go_wp2_with fail
  refine (I1 _).mono ?_
  rintro x w1 ⟨rfl, hb1⟩
  go_wp2_with fail
  refine (Q1 _).mono ?_
  rintro x w1' ⟨rfl, rfl⟩
  go_wp2_with fail
  refine (I2 _).mono ?_
  rintro x w2 ⟨rfl, hb2⟩
  go_wp2_with fail
  refine (Q2 _).mono ?_
  rintro x w2' ⟨rfl, rfl⟩
  go_wp2_with fail
  refine (I3 _).mono ?_
  rintro x w3 ⟨rfl, hb3⟩
  go_wp2_with fail
  refine (Q3 _).mono ?_
  rintro x w3' ⟨rfl, rfl⟩
  go_wp2_with fail
  refine (A1 _).mono ?_
  rintro x w4 ⟨rfl, rfl⟩
  go_wp2_with fail
  refine (A2 _).mono ?_
  rintro x w5 ⟨rfl, rfl⟩
  go_wp2_with fail
  refine (A3 _).mono ?_
  rintro x w6 ⟨rfl, rfl⟩
  go_wp2_with fail
  refine (A4 _).mono ?_
  rintro x w7 ⟨rfl, rfl⟩
  go_wp2
  go_ret
  have hb : Below w.heap.size w _ := (hb1.trans (hb2.mono hb1.size)).trans (hb3.mono (Nat.le_trans hb1.size hb2.size))
  exact kp_mk (by simp) (Stp.of_below hb) (hn.below hb)
end Go.Proofs.Qxb6500290a
