import Derived.Test.Qxb6500292aM9
namespace Go.Proofs.Qxb6500292a
open Go.RowKit
open Ieee (double Datum)
set_option linter.unusedVariables false

/-- Cmp's answer by equality and the two 'less'. -/
def cmpB (op : Int) (eq l1 l2 : Bool) : Bool :=
  if op = 1 then eq else if op = 2 then !eq else if op = 3 then l1 else if op = 4 then eq || l1 else if op = 5 then l2 else if op = 6 then eq || l2 else false

set_option maxHeartbeats 6400000 in
theorem cmp_walk (p : Value) (op : Int) (a b : Nat) (w : World) (bz ab l1 l2 : Bool) (hab : ((a : Int) == (b : Int)) = ab)
    (N1 : ∀ w, Calls Try.prog 74 #[.int .u64 a, .int .u64 b] w fun e w' => e = .returned (.bool false) ∧ w' = w)
    (Z0 : ∀ w, Calls Try.prog 75 #[.int .u64 a, .int .u64 b] w fun e w' => e = .returned (.bool bz) ∧ w' = w)
    (LA : ∀ w, Calls Try.prog 76 #[.int .u64 a, .int .u64 b] w fun e w' => e = .returned (.bool l1) ∧ w' = w)
    (LB : ∀ w, Calls Try.prog 76 #[.int .u64 b, .int .u64 a] w fun e w' => e = .returned (.bool l2) ∧ w' = w) :
    Calls Try.prog 72 #[p, .int .i64 op, .int .u64 a, .int .u64 b] w fun e w' => e = .returned (.bool (cmpB op (bz || ab) l1 l2)) ∧ w' = w := by
  rcases (by omega : op = 1 ∨ op = 2 ∨ op = 3 ∨ op = 4 ∨ op = 5 ∨ op = 6 ∨ (op ≠ 1 ∧ op ≠ 2 ∧ op ≠ 3 ∧ op ≠ 4 ∧ op ≠ 5 ∧ op ≠ 6)) with rfl | rfl | rfl | rfl | rfl | rfl | ⟨h1, h2, h3, h4, h5, h6⟩ <;> cases bz <;> cases ab
  · go_enter Try.func72, Try.ntmps72
    go_wp2_with fail
    refine (N1 _).mono ?_; rintro e w' ⟨rfl, rfl⟩
    go_wp2_with fail
    refine (Z0 _).mono ?_; rintro e w' ⟨rfl, rfl⟩
    go_wp2_with fail
    go_ret
    exact ⟨rfl, rfl⟩
  · go_enter Try.func72, Try.ntmps72
    go_wp2_with fail
    refine (N1 _).mono ?_; rintro e w' ⟨rfl, rfl⟩
    go_wp2_with fail
    refine (Z0 _).mono ?_; rintro e w' ⟨rfl, rfl⟩
    go_wp2_with fail
    go_ret
    exact ⟨rfl, rfl⟩
  · go_enter Try.func72, Try.ntmps72
    go_wp2_with fail
    refine (N1 _).mono ?_; rintro e w' ⟨rfl, rfl⟩
    go_wp2_with fail
    refine (Z0 _).mono ?_; rintro e w' ⟨rfl, rfl⟩
    go_wp2_with fail
    go_ret
    exact ⟨rfl, rfl⟩
  · go_enter Try.func72, Try.ntmps72
    go_wp2_with fail
    refine (N1 _).mono ?_; rintro e w' ⟨rfl, rfl⟩
    go_wp2_with fail
    refine (Z0 _).mono ?_; rintro e w' ⟨rfl, rfl⟩
    go_wp2_with fail
    go_ret
    exact ⟨rfl, rfl⟩
  · go_enter Try.func72, Try.ntmps72
    go_wp2_with fail
    refine (N1 _).mono ?_; rintro e w' ⟨rfl, rfl⟩
    go_wp2_with fail
    refine (Z0 _).mono ?_; rintro e w' ⟨rfl, rfl⟩
    go_wp2_with fail
    go_ret
    exact ⟨rfl, rfl⟩
  · go_enter Try.func72, Try.ntmps72
    go_wp2_with fail
    refine (N1 _).mono ?_; rintro e w' ⟨rfl, rfl⟩
    go_wp2_with fail
    refine (Z0 _).mono ?_; rintro e w' ⟨rfl, rfl⟩
    go_wp2_with fail
    go_ret
    exact ⟨rfl, rfl⟩
  · go_enter Try.func72, Try.ntmps72
    go_wp2_with fail
    refine (N1 _).mono ?_; rintro e w' ⟨rfl, rfl⟩
    go_wp2_with fail
    refine (Z0 _).mono ?_; rintro e w' ⟨rfl, rfl⟩
    go_wp2_with fail
    go_ret
    exact ⟨rfl, rfl⟩
  · go_enter Try.func72, Try.ntmps72
    go_wp2_with fail
    refine (N1 _).mono ?_; rintro e w' ⟨rfl, rfl⟩
    go_wp2_with fail
    refine (Z0 _).mono ?_; rintro e w' ⟨rfl, rfl⟩
    go_wp2_with fail
    go_ret
    exact ⟨rfl, rfl⟩
  · go_enter Try.func72, Try.ntmps72
    go_wp2_with fail
    refine (N1 _).mono ?_; rintro e w' ⟨rfl, rfl⟩
    go_wp2_with fail
    refine (Z0 _).mono ?_; rintro e w' ⟨rfl, rfl⟩
    go_wp2_with fail
    refine (LA _).mono ?_; rintro e w' ⟨rfl, rfl⟩
    go_wp2_with fail
    go_ret
    exact ⟨rfl, rfl⟩
  · go_enter Try.func72, Try.ntmps72
    go_wp2_with fail
    refine (N1 _).mono ?_; rintro e w' ⟨rfl, rfl⟩
    go_wp2_with fail
    refine (Z0 _).mono ?_; rintro e w' ⟨rfl, rfl⟩
    go_wp2_with fail
    refine (LA _).mono ?_; rintro e w' ⟨rfl, rfl⟩
    go_wp2_with fail
    go_ret
    exact ⟨rfl, rfl⟩
  · go_enter Try.func72, Try.ntmps72
    go_wp2_with fail
    refine (N1 _).mono ?_; rintro e w' ⟨rfl, rfl⟩
    go_wp2_with fail
    refine (Z0 _).mono ?_; rintro e w' ⟨rfl, rfl⟩
    go_wp2_with fail
    refine (LA _).mono ?_; rintro e w' ⟨rfl, rfl⟩
    go_wp2_with fail
    go_ret
    exact ⟨rfl, rfl⟩
  · go_enter Try.func72, Try.ntmps72
    go_wp2_with fail
    refine (N1 _).mono ?_; rintro e w' ⟨rfl, rfl⟩
    go_wp2_with fail
    refine (Z0 _).mono ?_; rintro e w' ⟨rfl, rfl⟩
    go_wp2_with fail
    refine (LA _).mono ?_; rintro e w' ⟨rfl, rfl⟩
    go_wp2_with fail
    go_ret
    exact ⟨rfl, rfl⟩
  · go_enter Try.func72, Try.ntmps72
    go_wp2_with fail
    refine (N1 _).mono ?_; rintro e w' ⟨rfl, rfl⟩
    go_wp2_with fail
    refine (Z0 _).mono ?_; rintro e w' ⟨rfl, rfl⟩
    go_wp2_with fail
    refine (LA _).mono ?_; rintro e w' ⟨rfl, rfl⟩
    go_wp2_with fail
    go_ret
    exact ⟨rfl, rfl⟩
  · go_enter Try.func72, Try.ntmps72
    go_wp2_with fail
    refine (N1 _).mono ?_; rintro e w' ⟨rfl, rfl⟩
    go_wp2_with fail
    refine (Z0 _).mono ?_; rintro e w' ⟨rfl, rfl⟩
    go_wp2_with fail
    go_ret
    exact ⟨rfl, rfl⟩
  · go_enter Try.func72, Try.ntmps72
    go_wp2_with fail
    refine (N1 _).mono ?_; rintro e w' ⟨rfl, rfl⟩
    go_wp2_with fail
    refine (Z0 _).mono ?_; rintro e w' ⟨rfl, rfl⟩
    go_wp2_with fail
    go_ret
    exact ⟨rfl, rfl⟩
  · go_enter Try.func72, Try.ntmps72
    go_wp2_with fail
    refine (N1 _).mono ?_; rintro e w' ⟨rfl, rfl⟩
    go_wp2_with fail
    refine (Z0 _).mono ?_; rintro e w' ⟨rfl, rfl⟩
    go_wp2_with fail
    go_ret
    exact ⟨rfl, rfl⟩
  · go_enter Try.func72, Try.ntmps72
    go_wp2_with fail
    refine (N1 _).mono ?_; rintro e w' ⟨rfl, rfl⟩
    go_wp2_with fail
    refine (Z0 _).mono ?_; rintro e w' ⟨rfl, rfl⟩
    go_wp2_with fail
    refine (LB _).mono ?_; rintro e w' ⟨rfl, rfl⟩
    go_wp2_with fail
    go_ret
    exact ⟨rfl, rfl⟩
  · go_enter Try.func72, Try.ntmps72
    go_wp2_with fail
    refine (N1 _).mono ?_; rintro e w' ⟨rfl, rfl⟩
    go_wp2_with fail
    refine (Z0 _).mono ?_; rintro e w' ⟨rfl, rfl⟩
    go_wp2_with fail
    refine (LB _).mono ?_; rintro e w' ⟨rfl, rfl⟩
    go_wp2_with fail
    go_ret
    exact ⟨rfl, rfl⟩
  · go_enter Try.func72, Try.ntmps72
    go_wp2_with fail
    refine (N1 _).mono ?_; rintro e w' ⟨rfl, rfl⟩
    go_wp2_with fail
    refine (Z0 _).mono ?_; rintro e w' ⟨rfl, rfl⟩
    go_wp2_with fail
    refine (LB _).mono ?_; rintro e w' ⟨rfl, rfl⟩
    go_wp2_with fail
    go_ret
    exact ⟨rfl, rfl⟩
  · go_enter Try.func72, Try.ntmps72
    go_wp2_with fail
    refine (N1 _).mono ?_; rintro e w' ⟨rfl, rfl⟩
    go_wp2_with fail
    refine (Z0 _).mono ?_; rintro e w' ⟨rfl, rfl⟩
    go_wp2_with fail
    refine (LB _).mono ?_; rintro e w' ⟨rfl, rfl⟩
    go_wp2_with fail
    go_ret
    exact ⟨rfl, rfl⟩
  · go_enter Try.func72, Try.ntmps72
    go_wp2_with fail
    refine (N1 _).mono ?_; rintro e w' ⟨rfl, rfl⟩
    go_wp2_with fail
    refine (Z0 _).mono ?_; rintro e w' ⟨rfl, rfl⟩
    go_wp2_with fail
    refine (LB _).mono ?_; rintro e w' ⟨rfl, rfl⟩
    go_wp2_with fail
    go_ret
    exact ⟨rfl, rfl⟩
  · go_enter Try.func72, Try.ntmps72
    go_wp2_with fail
    refine (N1 _).mono ?_; rintro e w' ⟨rfl, rfl⟩
    go_wp2_with fail
    refine (Z0 _).mono ?_; rintro e w' ⟨rfl, rfl⟩
    go_wp2_with fail
    go_ret
    exact ⟨rfl, rfl⟩
  · go_enter Try.func72, Try.ntmps72
    go_wp2_with fail
    refine (N1 _).mono ?_; rintro e w' ⟨rfl, rfl⟩
    go_wp2_with fail
    refine (Z0 _).mono ?_; rintro e w' ⟨rfl, rfl⟩
    go_wp2_with fail
    go_ret
    exact ⟨rfl, rfl⟩
  · go_enter Try.func72, Try.ntmps72
    go_wp2_with fail
    refine (N1 _).mono ?_; rintro e w' ⟨rfl, rfl⟩
    go_wp2_with fail
    refine (Z0 _).mono ?_; rintro e w' ⟨rfl, rfl⟩
    go_wp2_with fail
    go_ret
    exact ⟨rfl, rfl⟩
  all_goals
    have HV : Hid (∀ x, cmpB op x l1 l2 = false) := by
      show ∀ x, _
      intro x
      unfold cmpB
      rw [if_neg h1, if_neg h2, if_neg h3, if_neg h4, if_neg h5, if_neg h6]
    go_enter Try.func72, Try.ntmps72
    go_wp2_with fail
    refine (N1 _).mono ?_; rintro e w' ⟨rfl, rfl⟩
    go_wp2_with fail
    refine (Z0 _).mono ?_; rintro e w' ⟨rfl, rfl⟩
    go_wp2_with fail
    go_ret
    rw [HV.out]; exact ⟨rfl, rfl⟩

set_option maxHeartbeats 1600000 in
theorem cmp_nan (p : Value) (op : Int) (a b : Nat) (w : World)
    (N1 : ∀ w, Calls Try.prog 74 #[.int .u64 a, .int .u64 b] w fun e w' => e = .returned (.bool true) ∧ w' = w) :
    Calls Try.prog 72 #[p, .int .i64 op, .int .u64 a, .int .u64 b] w fun e w' => e = .returned (.bool (op == 2)) ∧ w' = w := by
  go_enter Try.func72, Try.ntmps72
  go_wp2_with fail
  refine (N1 _).mono ?_; rintro e w' ⟨rfl, rfl⟩
  go_wp2
  go_ret
  exact ⟨rfl, rfl⟩

theorem cmp_M (p : Value) (op : Int) (a b : Nat) (w : World) (ha : a < 18446744073709551616) (hb : b < 18446744073709551616) :
    Calls Try.prog 72 #[p, .int .i64 op, .int .u64 a, .int .u64 b] w fun e w' => e = .returned (.bool (cmpW op (double.order a b))) ∧ w' = w := by
  have N1 := fun w => anyNaN_any a b w ha hb
  by_cases cn : 2047 * 2 ^ 52 < a % 2 ^ 63 ∨ 2047 * 2 ^ 52 < b % 2 ^ 63
  · rw [show (nanB a || nanB b) = true from by unfold nanB; rcases cn with h | h <;> simp [h]] at N1
    have ho : double.order a b = none := by
      rcases cn with h | h
      · exact Fl.order_nan_left h
      · exact Fl.order_nan_right h
    rw [ho, show cmpW op none = (op == 2) from by
      unfold cmpW
      by_cases h1 : op = 1
      · subst h1; rfl
      by_cases h2 : op = 2
      · subst h2; rfl
      rw [if_neg h1, if_neg h2, show (op == 2) = false from by simp [h2]]
      simp]
    exact cmp_nan p op a b w N1
  · rw [show (nanB a || nanB b) = false from by unfold nanB; simp; omega] at N1
    have Z0 := fun w => bothZero_any a b w ha hb
    have LA := fun w => less_M a b w ha hb
    have LB := fun w => less_M b a w hb ha
    refine (cmp_walk p op a b w _ _ _ _ rfl N1 Z0 LA LB).mono ?_
    rintro e w' ⟨rfl, rfl⟩
    refine ⟨ret_bool ?_, rfl⟩
    rcases order_cases ha hb (by omega) (by omega) with ⟨h1, h2, h3, h4, h5⟩ | ⟨h1, h2, h3, h4⟩ | ⟨h1, h2, h3, h4, h5⟩
    · rw [h1, h2, h3, h4, show ((a : Int) == (b : Int)) = false from by rw [beq_eq_false_iff_ne]; omega]; rfl
    · have : ((zerB a && zerB b) || ((a : Int) == (b : Int))) = true := by
        rcases h4 with h | h
        · rw [h]; rfl
        · subst h; simp
      rw [h1, h2, h3, this]; rfl
    · rw [h1, h2, h3, h4, show ((a : Int) == (b : Int)) = false from by rw [beq_eq_false_iff_ne]; omega]; rfl
end Go.Proofs.Qxb6500292a
