import Derived.Test.Qxb6500293aGreatRRW5
namespace Go.Proofs.Qxb6500293aGreatRR
open Go.RowKit
open Ieee (double)
attribute [local go_sem] run_frombits run_tobits run_negf

set_option maxHeartbeats 400000 in
theorem bits_num (r : Nat) (w : World) (h : FloatKind.f64.format.order r r = some .eq) :
    Calls Tryz.prog 125 #[.float .f64 r] w fun e w' => e = .returned (.int .u64 r) ∧ w' = w := by
  go_enter Tryz.func125, Tryz.ntmps125
  go_wp2
  go_ret
  exact ⟨rfl, rfl⟩

set_option maxHeartbeats 800000 in
theorem arith_valid (p : Value) (op : Int) (bop : BinOp) (hop : (op = 1 ∧ bop = .add) ∨ (op = 2 ∧ bop = .sub) ∨ (op = 3 ∧ bop = .mul) ∨ (op = 4 ∧ bop = .quo)) (a b r : Nat) (w : World)
    (h : floatBits bop .f64 a b = some r) (hr : FloatKind.f64.format.order r r = some .eq) :
    Calls Tryz.prog 118 #[p, .int .i64 op, .int .u64 a, .int .u64 b] w fun e w' => e = .returned (.int .u64 r) ∧ w' = w := by
  have hb := fun w => bits_num r w hr
  rcases hop with ⟨rfl, rfl⟩ | ⟨rfl, rfl⟩ | ⟨rfl, rfl⟩ | ⟨rfl, rfl⟩
  all_goals
    have q := fun w => run_float_arith (P := Tryz.prog) w _ 141 .f64 a b r h
    clear h hr
    go_enter Tryz.func118, Tryz.ntmps118
    go_wp2_with (go_at_call 125; refine (hb _).mono ?_; rintro e w' ⟨rfl, rfl⟩)
    go_ret
    exact ⟨rfl, rfl⟩

theorem nearest_true (m : Nat) (e : Int) : double.nearest true m e = 2 ^ 63 + double.nearest false m e := by
  by_cases h0 : m = 0
  · subst h0; rw [Fl.nearest_zero, Fl.nearest_zero, Fl.word_true, Fl.word_false]
  · rw [Fl.nearest_eq _ _ _ h0, Fl.nearest_eq _ _ _ h0, Fl.word_true, Fl.word_false]
theorem xor_nearest (m : Nat) (e : Int) : bits .xor .u64 ((double.nearest false m e : Nat) : Int) 9223372036854775808 = ((double.nearest true m e : Nat) : Int) := by
  have h := Fl.nearest_false_le m e
  rw [u64_xor_sign _ (by omega), xor_word _ (by omega), nearest_true]
theorem order_nearest (s : Bool) (m : Nat) (e : Int) : FloatKind.f64.format.order (double.nearest s m e) (double.nearest s m e) = some .eq := by
  have h := Fl.nearest_false_le m e
  cases s
  · exact order_self _ (by omega) (by omega)
  · rw [nearest_true]; exact order_self _ (by omega) (by omega)
theorem dec_one : dec 1 = [49] := by decide +kernel

end Go.Proofs.Qxb6500293aGreatRR
