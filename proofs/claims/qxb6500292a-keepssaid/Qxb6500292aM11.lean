import Derived.Test.Qxb6500292aM10
namespace Go.Proofs.Qxb6500292a
open Go.RowKit
open Ieee (double Datum)
set_option linter.unusedVariables false

set_option maxHeartbeats 800000 in
theorem fromInt_M (p : Value) (i : Int) (w : World) (h1 : -9223372036854775808 ≤ i) (h2 : i < 9223372036854775808) :
    Calls Try.prog 64 #[p, .int .i64 i] w fun e w' => e = .returned (.int .u64 (double.nearest (decide (i < 0)) i.natAbs 0 : Nat)) ∧ w' = w := by
  rcases (by omega : 0 ≤ i ∨ i = -9223372036854775808 ∨ (-9223372036854775808 < i ∧ i < 0)) with c | c | c
  · obtain ⟨n, rfl⟩ : ∃ n : Nat, i = n := ⟨i.toNat, by omega⟩
    have HV : Hid (double.nearest (decide ((n : Int) < 0)) (n : Int).natAbs 0 = Fl.packP false n 0 false) := by
      show _ = _
      rw [packP_f, decide_eq_false (by omega), Int.natAbs_natCast]
    generalize double.nearest (decide ((n : Int) < 0)) (n : Int).natAbs 0 = V at *
    have hn : n < 9223372036854775808 := by omega
    clear h1 h2 c
    go_enter Try.func64, Try.ntmps64
    go_wp2_with fail
    refine (pack_int false _ _ _ 0 n _ false _ rfl rfl rfl rfl (by omega) (by omega) (by omega) (by intro h; cases h)).mono ?_; rintro e w' ⟨rfl, rfl⟩
    go_wp2
    go_ret
    rw [HV.out]; exact ⟨rfl, rfl⟩
  · obtain ⟨M, hM⟩ : ∃ M : Nat, M = 9223372036854775808 := ⟨_, rfl⟩
    have HV : Hid (double.nearest (decide (i < 0)) i.natAbs 0 = Fl.packP true M 0 false) := by
      show _ = _
      rw [packP_f, decide_eq_true (by omega), show i.natAbs = M from by omega]
    generalize double.nearest (decide (i < 0)) i.natAbs 0 = V at *
    subst c
    have hMM : (M : Int) = 9223372036854775808 := by omega
    have hML : M < 18446744073709551616 := by omega
    have hwr : IntKind.u64.wrap (wrap64 9223372036854775808) = (M : Int) := by rw [hMM]; decide +kernel
    clear h1 h2 hM hMM
    go_enter Try.func64, Try.ntmps64
    go_wp2_with fail
    refine (pack_int true _ _ _ 0 M _ false _ rfl rfl rfl rfl hML (by omega) (by omega) (by intro h; cases h)).mono ?_; rintro e w' ⟨rfl, rfl⟩
    go_wp2
    go_ret
    rw [HV.out]; exact ⟨rfl, rfl⟩
  · obtain ⟨n, rfl⟩ : ∃ n : Nat, i = -(n : Int) := ⟨(-i).toNat, by omega⟩
    have HV : Hid (double.nearest (decide (-(n : Int) < 0)) (-(n : Int)).natAbs 0 = Fl.packP true n 0 false) := by
      show _ = _
      rw [packP_f, decide_eq_true (by omega), Int.natAbs_neg, Int.natAbs_natCast]
    generalize double.nearest (decide (-(n : Int) < 0)) (-(n : Int)).natAbs 0 = V at *
    have hn : n < 9223372036854775808 := by omega
    have hn0 : 0 < n := by omega
    clear h1 h2 c
    go_enter Try.func64, Try.ntmps64
    go_wp2_with fail
    refine (pack_int true _ _ _ 0 n _ false _ rfl rfl rfl rfl (by omega) (by omega) (by omega) (by intro h; cases h)).mono ?_; rintro e w' ⟨rfl, rfl⟩
    go_wp2
    go_ret
    rw [HV.out]; exact ⟨rfl, rfl⟩
end Go.Proofs.Qxb6500292a
