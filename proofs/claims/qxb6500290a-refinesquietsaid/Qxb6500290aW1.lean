import Derived.Test.Qxb6500290aRows
import Derived.Test.Qxb6500290aFl3
import Derived.Test.Qxb6500290aMem
import Derived.WalkKit
import Derived.WalkSpells
import Derived.WalkLawsBesides
import Derived.Test.Qxb6500290aBits
namespace Go.Proofs.Qxb6500290a
open Go.RowKit
open Ieee (double)

/-! ### Functions without a body, and a float's sign -/
theorem run_frombits (x : Int) (w : World) : (callFunc 35 #[.int .u64 x]).run Try.prog w = .ok (.value (.float .f64 x.toNat)) w := by
  rw [run_callFunc_extern (fn := Try.f35) (e := Extern.MathFloatBits.float64frombits) Try.func35 (by kernel_rfl) (by kernel_rfl) (by kernel_rfl) (by kernel_rfl)]; rfl
theorem run_tobits (x : Nat) (w : World) : (callFunc 37 #[.float .f64 x]).run Try.prog w = .ok (.value (.int .u64 x)) w := by
  rw [run_callFunc_extern (fn := Try.f37) (e := Extern.MathFloatBits.float64bits) Try.func37 (by kernel_rfl) (by kernel_rfl) (by kernel_rfl) (by kernel_rfl)]; rfl
theorem run_archFloor (x : Nat) (w : World) (h : x % 2 ^ 63 ≤ 2047 * 2 ^ 52) : (callFunc 70 #[.float .f64 x]).run Try.prog w = .ok (.value (.float .f64 (double.write ((double.read x).integral .down)))) w := by
  rw [run_callFunc_extern (fn := Try.f70) (e := Extern.MathFloor.toIntegral "math.archFloor" .down) Try.func70 (by kernel_rfl) (by kernel_rfl) (by kernel_rfl) (by kernel_rfl)]
  obtain ⟨q, ht⟩ : ∃ q : Question, Extern.MathFloor.toIntegral "math.archFloor" .down #[.float .f64 x] = (match double.read x with
    | .nan s t =>
      if FloatKind.f64.format.quiet t = t then pure (.float .f64 x) else do
      let kept ← choose q
      pure (.float .f64 (if kept == 1 then x else FloatKind.f64.encode (.nan s (FloatKind.f64.format.quiet t))))
    | d => pure (.float .f64 (FloatKind.f64.encode (d.integral .down)))) := ⟨_, rfl⟩
  have hn : ∀ s t, double.read x ≠ .nan s t := by
    intro s t
    rw [Fl.read_eq]
    by_cases c : x % 2 ^ 63 = 2047 * 2 ^ 52
    · rw [c, Fl.rd_inf]; simp
    · obtain ⟨m, e, h1, _⟩ := Fl.rd_V (x / 2 ^ 63 % 2 == 1) (x % 2 ^ 63) (by omega)
      rw [h1]; simp
  rw [ht]
  cases hd : double.read x with
  | nan s t => exact absurd hd (hn s t)
  | infinity s => rfl
  | number s m e => rfl
/-- A word with its sign turned. -/
def flip (x : Nat) : Nat := x ^^^ 2 ^ 63
theorem run_negf (x : Nat) (w : World) : (Op.unary .neg (.float .f64 x)).run Try.prog w = .ok (.float .f64 (flip x)) w := rfl
theorem flip_word (s : Bool) {r : Nat} (h : r < 2 ^ 63) : flip (double.word s r) = double.word (!s) r := by
  unfold flip
  cases s
  · rw [Fl.word_false, xor_sign _ (by omega), if_pos h]; show _ = double.word true r; rw [Fl.word_true]; omega
  · rw [Fl.word_true, xor_sign _ (by omega), if_neg (by omega)]; show _ = double.word false r; rw [Fl.word_false]; omega
attribute [local go_sem] run_frombits run_tobits run_negf

theorem order_eq (a b : Nat) : FloatKind.f64.format.order a b = double.order a b := rfl
set_option maxHeartbeats 400000 in
theorem abs_pos (x : Nat) (w : World) (hx : x < 9223372036854775808) :
    Calls Try.prog 81 #[.float .f64 x] w fun e w' => e = .returned (.float .f64 x) ∧ w' = w := by
  have e1 : bits .andNot .u64 (x : Int) 9223372036854775808 = (x : Int) := by
    rw [andNot_sign x (by omega), Nat.mod_eq_of_lt (by omega)]
  go_enter Try.func81, Try.ntmps81
  go_wp2
  go_ret
  exact ⟨rfl, rfl⟩

set_option maxHeartbeats 400000 in
theorem isInf_no (x : Nat) (w : World) (hx : x < 2047 * 2 ^ 52) :
    Calls Try.prog 77 #[.float .f64 x, .int .i64 0] w fun e w' => e = .returned (.bool false) ∧ w' = w := by
  have e1 : (FloatKind.f64.format.order x 9218868437227405311 == some .gt) = false := by
    rw [order_eq, Fl.order_pos (by omega) (by decide)]
    rw [beq_eq_false_iff_ne]
    intro h
    rcases Int.lt_trichotomy (x : Int) ((9218868437227405311 : Nat) : Int) with c | c | c
    · rw [Fl.cmp_lt c] at h; simp at h
    · rw [Fl.cmp_eq c] at h; simp at h
    · omega
  go_enter Try.func77, Try.ntmps77
  go_wp2_with (go_at_call 81; refine (abs_pos x _ (by omega)).mono ?_; rintro e w' ⟨rfl, rfl⟩)
  go_ret
  exact ⟨rfl, rfl⟩

theorem order_self (x : Nat) (hx : x % 2 ^ 63 ≤ 2047 * 2 ^ 52) (h64 : x < 2 ^ 64) : FloatKind.f64.format.order x x = some .eq := by
  rw [order_eq, Fl.word_of x h64, Fl.order_word _ _ hx hx, Fl.cmp_eq rfl]

set_option maxHeartbeats 400000 in
theorem isNaN_no (x : Nat) (w : World) (hx : x < 2047 * 2 ^ 52) :
    Calls Try.prog 76 #[.float .f64 x] w fun e w' => e = .returned (.bool false) ∧ w' = w := by
  have e1 := order_self x (by omega) (by omega)
  go_enter Try.func76, Try.ntmps76
  go_wp2
  go_ret
  exact ⟨rfl, rfl⟩

set_option maxHeartbeats 400000 in
theorem normalize_big (x : Nat) (w : World) (hx : x < 2047 * 2 ^ 52) (hx2 : 2 ^ 52 ≤ x) :
    Calls Try.prog 84 #[.float .f64 x] w fun e w' => e = .returned (.tuple #[.float .f64 x, .int .i64 0]) ∧ w' = w := by
  have e1 : (FloatKind.f64.format.order x 4503599627370496 == some .lt) = false := by
    rw [order_eq, Fl.order_pos (by omega) (by decide)]
    rw [beq_eq_false_iff_ne]
    intro h
    rcases Int.lt_trichotomy (x : Int) ((4503599627370496 : Nat) : Int) with c | c | c
    · omega
    · rw [Fl.cmp_eq c] at h; simp at h
    · rw [Fl.cmp_gt c] at h; simp at h
  go_enter Try.func84, Try.ntmps84
  go_wp2_with (go_at_call 81; refine (abs_pos x _ (by omega)).mono ?_; rintro e w' ⟨rfl, rfl⟩)
  go_ret2
  exact ⟨rfl, rfl⟩


set_option maxHeartbeats 400000 in
theorem copysign_zero (x : Nat) (w : World) (hx : x < 9223372036854775808) :
    Calls Try.prog 83 #[.float .f64 0, .float .f64 x] w fun e w' => e = .returned (.float .f64 0) ∧ w' = w := by
  have q3 : bits .andNot .u64 0 9223372036854775808 = 0 := by decide +kernel
  have q4 : bits .and .u64 (x : Int) 9223372036854775808 = 0 := by
    rw [and_sign x (by omega), Nat.div_eq_of_lt (by omega)]; rfl
  have q5 : bits .or .u64 0 0 = 0 := by decide +kernel
  go_enter Try.func83, Try.ntmps83
  go_wp2
  go_ret
  exact ⟨rfl, rfl⟩

set_option maxHeartbeats 400000 in
theorem inf_one (w : World) :
    Calls Try.prog 85 #[.int .i64 1] w fun e w' => e = .returned (.float .f64 9218868437227405312) ∧ w' = w := by
  go_enter Try.func85, Try.ntmps85
  go_wp2
  go_ret
  exact ⟨rfl, rfl⟩

theorem order_ne_zero (x : Nat) (h0 : 0 < x) (hx : x < 2047 * 2 ^ 52) : (FloatKind.f64.format.order x 0 == some .eq) = false := by
  rw [order_eq, Fl.order_pos (by omega) (by decide), Fl.cmp_gt (by omega)]; rfl
theorem order_not_neg (x : Nat) (h0 : 0 < x) (hx : x < 2047 * 2 ^ 52) : (FloatKind.f64.format.order x 0 == some .lt) = false := by
  rw [order_eq, Fl.order_pos (by omega) (by decide), Fl.cmp_gt (by omega)]; rfl
theorem exp_of (x E fr : Nat) (hx : x = (E + 1023) * 2 ^ 52 + fr) (hf : fr < 2 ^ 52) (hE : E ≤ 53) : bits .and .i64 ((x : Int) / 4503599627370496) 2047 = (E : Int) + 1023 := by
  have := and_2047 (x / 2 ^ 52) (by omega)
  rw [show ((x / 2 ^ 52 : Nat) : Int) = (x : Int) / 4503599627370496 from by omega] at this
  rw [this]; omega

set_option maxHeartbeats 800000 in
theorem ldexp_tiny (x E fr : Nat) (e : Int) (w : World) (hx : x = (E + 1023) * 2 ^ 52 + fr) (hf : fr < 2 ^ 52) (hE : E ≤ 53) (h1 : -10000 ≤ e) (h2 : e + E < -1075) :
    Calls Try.prog 80 #[.float .f64 x, .int .i64 e] w fun e w' => e = .returned (.float .f64 0) ∧ w' = w := by
  have x1 : 2 ^ 52 ≤ x := by omega
  have x2 : x < 2047 * 2 ^ 52 := by omega
  have q1 := order_ne_zero x (by omega) x2
  have q2 := exp_of x E fr hx hf hE
  clear hx
  go_enter Try.func80, Try.ntmps80
  go_wp2_with (first | (go_at_call 77; refine (isInf_no x _ x2).mono ?_; rintro e w' ⟨rfl, rfl⟩) | (go_at_call 76; refine (isNaN_no x _ x2).mono ?_; rintro e w' ⟨rfl, rfl⟩) | (go_at_call 84; refine (normalize_big x _ x2 x1).mono ?_; rintro e w' ⟨rfl, rfl⟩) | (go_at_call 83; refine (copysign_zero x _ (by omega)).mono ?_; rintro e w' ⟨rfl, rfl⟩))
  go_ret
  exact ⟨rfl, rfl⟩

set_option maxHeartbeats 800000 in
theorem ldexp_inf (x E fr : Nat) (e : Int) (w : World) (hx : x = (E + 1023) * 2 ^ 52 + fr) (hf : fr < 2 ^ 52) (hE : E ≤ 53) (h1 : e ≤ 10000) (h2 : 1023 < e + E) :
    Calls Try.prog 80 #[.float .f64 x, .int .i64 e] w fun e w' => e = .returned (.float .f64 9218868437227405312) ∧ w' = w := by
  have x1 : 2 ^ 52 ≤ x := by omega
  have x2 : x < 2047 * 2 ^ 52 := by omega
  have q1 := order_ne_zero x (by omega) x2
  have q6 := order_not_neg x (by omega) x2
  have q2 := exp_of x E fr hx hf hE
  clear hx
  go_enter Try.func80, Try.ntmps80
  go_wp2_with (first | (go_at_call 77; refine (isInf_no x _ x2).mono ?_; rintro e w' ⟨rfl, rfl⟩) | (go_at_call 76; refine (isNaN_no x _ x2).mono ?_; rintro e w' ⟨rfl, rfl⟩) | (go_at_call 84; refine (normalize_big x _ x2 x1).mono ?_; rintro e w' ⟨rfl, rfl⟩) | (go_at_call 85; refine (inf_one _).mono ?_; rintro e w' ⟨rfl, rfl⟩))
  go_ret
  exact ⟨rfl, rfl⟩

set_option maxHeartbeats 800000 in
theorem ldexp_normal (x E fr K m : Nat) (e : Int) (w : World) (hx : x = (E + 1023) * 2 ^ 52 + fr) (hf : fr < 2 ^ 52) (hE : E ≤ 53) (hs : Fl.Same (2 ^ 52 + fr) ((E : Int) - 52) m 0) (h1 : -1022 ≤ e + E) (h2 : e + E ≤ 1023) (hK : e + E = (K : Int) - 1023) :
    Calls Try.prog 80 #[.float .f64 x, .int .i64 e] w fun e' w' => e' = .returned (.float .f64 (double.nearest false m e)) ∧ w' = w := by
  have x1 : 2 ^ 52 ≤ x := by omega
  have x2 : x < 2047 * 2 ^ 52 := by omega
  have q1 := order_ne_zero x (by omega) x2
  have q2 := exp_of x E fr hx hf hE
  have q3 : bits .andNot .u64 (x : Int) 9218868437227405312 = (fr : Int) := by
    rw [andNot_exp x (by omega)]; omega
  have q4 := or_exp K fr hf (by omega)
  have q5 := fun w => run_float_arith (P := Try.prog) w .mul 58 .f64 4607182418800017408 (K * 2 ^ 52 + fr) _ (Fl.ld_normal hf hs (show (K : Int) = e + E + 1023 by omega) (by omega) (by omega))
  clear hx
  go_enter Try.func80, Try.ntmps80
  go_wp2_with (first | (go_at_call 77; refine (isInf_no x _ x2).mono ?_; rintro e w' ⟨rfl, rfl⟩) | (go_at_call 76; refine (isNaN_no x _ x2).mono ?_; rintro e w' ⟨rfl, rfl⟩) | (go_at_call 84; refine (normalize_big x _ x2 x1).mono ?_; rintro e w' ⟨rfl, rfl⟩) | (go_at_call 85; refine (inf_one _).mono ?_; rintro e w' ⟨rfl, rfl⟩))
  go_ret
  exact ⟨rfl, rfl⟩

set_option maxHeartbeats 800000 in
theorem ldexp_subnormal (x E fr K m : Nat) (e : Int) (w : World) (hx : x = (E + 1023) * 2 ^ 52 + fr) (hf : fr < 2 ^ 52) (hE : E ≤ 53) (hs : Fl.Same (2 ^ 52 + fr) ((E : Int) - 52) m 0) (h1 : -1075 ≤ e + E) (h2 : e + E < -1022) (hK : e + E = (K : Int) - 1076) :
    Calls Try.prog 80 #[.float .f64 x, .int .i64 e] w fun e' w' => e' = .returned (.float .f64 (double.nearest false m e)) ∧ w' = w := by
  have x1 : 2 ^ 52 ≤ x := by omega
  have x2 : x < 2047 * 2 ^ 52 := by omega
  have q1 := order_ne_zero x (by omega) x2
  have q2 := exp_of x E fr hx hf hE
  have q3 : bits .andNot .u64 (x : Int) 9218868437227405312 = (fr : Int) := by
    rw [andNot_exp x (by omega)]; omega
  have q4 := or_exp K fr hf (by omega)
  have q5 := fun w => run_float_arith (P := Try.prog) w .mul 58 .f64 4368491638549381120 (K * 2 ^ 52 + fr) _ (Fl.ld_subnormal hf hs (show (K : Int) = e + E + 53 + 1023 by omega) (by omega) (by omega))
  have q6 : (K : Int) - 1076 + 53 + 1023 = K := by omega
  clear hx
  go_enter Try.func80, Try.ntmps80
  go_wp2_with (first | (go_at_call 77; refine (isInf_no x _ x2).mono ?_; rintro e w' ⟨rfl, rfl⟩) | (go_at_call 76; refine (isNaN_no x _ x2).mono ?_; rintro e w' ⟨rfl, rfl⟩) | (go_at_call 84; refine (normalize_big x _ x2 x1).mono ?_; rintro e w' ⟨rfl, rfl⟩) | (go_at_call 85; refine (inf_one _).mono ?_; rintro e w' ⟨rfl, rfl⟩))
  go_ret
  exact ⟨rfl, rfl⟩

set_option maxHeartbeats 400000 in
theorem ldexp_zero (e : Int) (w : World) :
    Calls Try.prog 80 #[.float .f64 0, .int .i64 e] w fun e' w' => e' = .returned (.float .f64 0) ∧ w' = w := by
  have q1 : FloatKind.f64.format.order 0 0 = some .eq := by decide +kernel
  go_enter Try.func80, Try.ntmps80
  go_wp2
  go_ret
  exact ⟨rfl, rfl⟩

/-- math.ldexp of a whole number: rounded once. -/
theorem ldexp_any (m : Nat) (e : Int) (w : World) (hm : m ≤ 2 ^ 53) (h1 : -10000 ≤ e) (h2 : e ≤ 10000) :
    Calls Try.prog 80 #[.float .f64 (double.nearest false m 0), .int .i64 e] w fun e' w' => e' = .returned (.float .f64 (double.nearest false m e)) ∧ w' = w := by
  by_cases h0 : m = 0
  · subst h0
    rw [Fl.nearest_zero, Fl.nearest_zero, Fl.word_false]
    exact ldexp_zero e w
  · obtain ⟨E, fr, hx, hf, hE, hL, hs⟩ := Fl.ld_parts m h0 hm
    by_cases c1 : e + E < -1075
    · rw [Fl.nearest_tiny false m e h0 (by omega), Fl.word_false]
      exact ldexp_tiny _ E fr e w hx hf hE h1 c1
    · by_cases c2 : 1023 < e + E
      · rw [Fl.nearest_inf false m e h0 (by omega), Fl.word_false]
        exact ldexp_inf _ E fr e w hx hf hE h2 c2
      · by_cases c3 : e + E < -1022
        · exact ldexp_subnormal _ E fr (e + E + 1076).toNat m e w hx hf hE hs (by omega) c3 (by omega)
        · exact ldexp_normal _ E fr (e + E + 1023).toNat m e w hx hf hE hs (by omega) (by omega) (by omega)

set_option maxHeartbeats 400000 in
/-- math.Ldexp of a whole number. -/
theorem Ldexp_any (m : Nat) (e : Int) (w : World) (hm : m ≤ 2 ^ 53) (h1 : -10000 ≤ e) (h2 : e ≤ 10000) :
    Calls Try.prog 73 #[.float .f64 (double.nearest false m 0), .int .i64 e] w fun e' w' => e' = .returned (.float .f64 (double.nearest false m e)) ∧ w' = w := by
  go_enter Try.func73, Try.ntmps73
  go_wp2_with (go_at_call 80; refine (ldexp_any m e _ hm h1 h2).mono ?_; rintro e w' ⟨rfl, rfl⟩)
  go_ret
  exact ⟨rfl, rfl⟩

set_option maxHeartbeats 400000 in
theorem floor_any (x : Nat) (w : World) (h : x % 2 ^ 63 ≤ 2047 * 2 ^ 52) :
    Calls Try.prog 53 #[.float .f64 x] w fun e' w' => e' = .returned (.float .f64 (double.write ((double.read x).integral .down))) ∧ w' = w := by
  have q := fun w => run_archFloor x w h
  go_enter Try.func53, Try.ntmps53
  go_wp2
  go_ret
  exact ⟨rfl, rfl⟩

theorem floatOfInt_eq (i : Int) : floatOfInt .f64 i = double.nearest (decide (i < 0)) i.natAbs 0 := rfl
set_option maxHeartbeats 400000 in
theorem fromInt_any (p : Value) (i : Int) (w : World) :
    Calls Try.prog 18 #[p, .int .i64 i] w fun e' w' => e' = .returned (.int .u64 (double.nearest (decide (i < 0)) i.natAbs 0 : Nat)) ∧ w' = w := by
  go_enter Try.func18, Try.ntmps18
  go_wp2
  go_ret
  exact ⟨rfl, rfl⟩

end Go.Proofs.Qxb6500290a
