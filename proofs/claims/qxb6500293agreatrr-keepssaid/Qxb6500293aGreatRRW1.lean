import Derived.Test.Qxb6500293aGreatRRRows
import Derived.Test.Qxb6500293aGreatRRFl3
import Derived.Test.Qxb6500293aGreatRRMem
import Derived.WalkKit
import Derived.WalkSpells
import Derived.WalkLawsBesides
import Derived.Test.Qxb6500293aGreatRRBits
namespace Go.Proofs.Qxb6500293aGreatRR
open Go.RowKit
open Ieee (double)

/-! ### Functions without a body, and a float's sign -/
theorem run_frombits (x : Int) (w : World) : (callFunc 78 #[.int .u64 x]).run Tryz.prog w = .ok (.value (.float .f64 x.toNat)) w := by
  rw [run_callFunc_extern (fn := Tryz.f78) (e := Extern.MathFloatBits.float64frombits) Tryz.func78 (by kernel_rfl) (by kernel_rfl) (by kernel_rfl) (by kernel_rfl)]; rfl
theorem run_tobits (x : Nat) (w : World) : (callFunc 67 #[.float .f64 x]).run Tryz.prog w = .ok (.value (.int .u64 x)) w := by
  rw [run_callFunc_extern (fn := Tryz.f67) (e := Extern.MathFloatBits.float64bits) Tryz.func67 (by kernel_rfl) (by kernel_rfl) (by kernel_rfl) (by kernel_rfl)]; rfl
/-- A word with its sign turned. -/
def flip (x : Nat) : Nat := x ^^^ 2 ^ 63
theorem run_negf (x : Nat) (w : World) : (Op.unary .neg (.float .f64 x)).run Tryz.prog w = .ok (.float .f64 (flip x)) w := rfl
theorem flip_word (s : Bool) {r : Nat} (h : r < 2 ^ 63) : flip (double.word s r) = double.word (!s) r := by
  unfold flip
  cases s
  · rw [Fl.word_false, xor_sign _ (by omega), if_pos h]; show _ = double.word true r; rw [Fl.word_true]; omega
  · rw [Fl.word_true, xor_sign _ (by omega), if_neg (by omega)]; show _ = double.word false r; rw [Fl.word_false]; omega
attribute [local go_sem] run_frombits run_tobits run_negf

theorem order_eq (a b : Nat) : FloatKind.f64.format.order a b = double.order a b := rfl
theorem order_self (x : Nat) (hx : x % 2 ^ 63 ≤ 2047 * 2 ^ 52) (h64 : x < 2 ^ 64) : FloatKind.f64.format.order x x = some .eq := by
  rw [order_eq, Fl.word_of x h64, Fl.order_word _ _ hx hx, Fl.cmp_eq rfl]

theorem order_ne_zero (x : Nat) (h0 : 0 < x) (hx : x < 2047 * 2 ^ 52) : (FloatKind.f64.format.order x 0 == some .eq) = false := by
  rw [order_eq, Fl.order_pos (by omega) (by decide), Fl.cmp_gt (by omega)]; rfl
theorem order_not_neg (x : Nat) (h0 : 0 < x) (hx : x < 2047 * 2 ^ 52) : (FloatKind.f64.format.order x 0 == some .lt) = false := by
  rw [order_eq, Fl.order_pos (by omega) (by decide), Fl.cmp_gt (by omega)]; rfl
theorem exp_of (x E fr : Nat) (hx : x = (E + 1023) * 2 ^ 52 + fr) (hf : fr < 2 ^ 52) (hE : E ≤ 53) : bits .and .i64 ((x : Int) / 4503599627370496) 2047 = (E : Int) + 1023 := by
  have := and_2047 (x / 2 ^ 52) (by omega)
  rw [show ((x / 2 ^ 52 : Nat) : Int) = (x : Int) / 4503599627370496 from by omega] at this
  rw [this]; omega

theorem floatOfInt_eq (i : Int) : floatOfInt .f64 i = double.nearest (decide (i < 0)) i.natAbs 0 := rfl
set_option maxHeartbeats 400000 in
theorem fromInt_any (p : Value) (i : Int) (w : World) :
    Calls Tryz.prog 45 #[p, .int .i64 i] w fun e' w' => e' = .returned (.int .u64 (double.nearest (decide (i < 0)) i.natAbs 0 : Nat)) ∧ w' = w := by
  go_enter Tryz.func45, Tryz.ntmps45
  go_wp2
  go_ret
  exact ⟨rfl, rfl⟩

end Go.Proofs.Qxb6500293aGreatRR
