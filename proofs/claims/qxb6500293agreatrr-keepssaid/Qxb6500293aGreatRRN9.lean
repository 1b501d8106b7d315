import Derived.Test.Qxb6500293aGreatRRM8
namespace Go.Proofs.Qxb6500293aGreatRR
open Go.RowKit
open Ieee (double Datum)
set_option linter.unusedVariables false
attribute [local go_sem] run_frombits run_tobits run_negf

theorem negW_canon (a : Nat) : canon (flipS a) = negW a := by
  unfold canon negW
  rw [flipS_mod]
theorem negW_lt {a : Nat} (h : a < 18446744073709551616) : negW a < 18446744073709551616 := by rw [← negW_canon]; exact canon_lt (flipS_lt h)

set_option maxHeartbeats 800000 in
theorem neg_R (p : Value) (a : Nat) (w : World) (ha : a < 18446744073709551616) :
    Calls Tryz.prog 120 #[p, .int .u64 a] w fun e w' => e = .returned (.int .u64 (negW a : Nat)) ∧ w' = w := by
  have HB := fun w => bits_any (flip a) w (canon_lt (flipS_lt ha))
  rw [show canon (flip a) = negW a from negW_canon a] at HB
  go_enter Tryz.func120, Tryz.ntmps120
  go_wp2_with fail
  refine (HB _).mono ?_; rintro e w' ⟨rfl, rfl⟩
  go_wp2
  go_ret
  exact ⟨rfl, rfl⟩

end Go.Proofs.Qxb6500293aGreatRR
