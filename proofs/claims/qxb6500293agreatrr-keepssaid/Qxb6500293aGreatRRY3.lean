/-
  The small functions: tabOf, numOf, effect, Out, valid walked.
-/
import Derived.Test.Qxb6500293aGreatRRY2
namespace Go.Proofs.Qxb6500293aGreatRR
open Go.RowKit
open Ieee (double)
set_option linter.unusedVariables false
set_option linter.unusedSimpArgs false

theorem new_at (w : World) (o : Obj) {n : Nat} (h : w.heap.size = n) : (w.alloc o).heap[n]? = some o := by subst h; exact World.alloc_heap_new _ _
/-- An error flies; nothing that lay there has turned. -/
def ThrEnd (W : World) (v : V) (en : Ending) (W' : World) : Prop := ∃ b, en = thrE b ∧ W.heap.size ≤ b ∧ W'.heap[b]? = some (thrO v) ∧ Below W.heap.size W W'
set_option maxHeartbeats 400000 in
theorem tabOf_ok (v : V) (s : List UInt8) (W : World) (hT : v.T = 4) (hN : v.N ≤ 9223372036854775807) : Calls Tryz.prog 107 #[valV v, .string ⟨s.toArray⟩] W fun e W' => e = .returned (i64 v.N) ∧ Below W.heap.size W W' := by
  obtain ⟨T, N, S⟩ := v
  rw [valV_mk]
  simp only at hT hN
  subst hT
  go_enter Tryz.func107, Tryz.ntmps107
  go_wp2_with fail
  go_ret
  exact ⟨rfl, below_one _ _⟩
set_option maxHeartbeats 400000 in
theorem tabOf_thr (v : V) (s : List UInt8) (W : World) (hT : v.T ≠ 4) : Calls Tryz.prog 107 #[valV v, .string ⟨s.toArray⟩] W (ThrEnd W (str s)) := by
  obtain ⟨T, N, S⟩ := v
  rw [valV_mk]
  simp only at hT
  have bT : (T != 4) = true := by simpa using hT
  have HR := fun W => raise_any s W
  clear hT
  go_enter Tryz.func107, Tryz.ntmps107
  go_wp2_with fail
  refine (HR _).mono ?_; rintro e w1 ⟨rfl, rfl⟩
  go_wp2_with fail
  simp [bodyPost]
  exact ⟨_, rfl, by simp, new_at _ _ (by simp), below_two (below_one _ _) (below_one _ _)⟩
set_option maxHeartbeats 400000 in
theorem numOf_ok (v : V) (s : List UInt8) (W : World) (hT : v.T = 2) : Calls Tryz.prog 117 #[valV v, .string ⟨s.toArray⟩] W fun e W' => e = .returned (.int .u64 (v.N : Int)) ∧ Below W.heap.size W W' := by
  obtain ⟨T, N, S⟩ := v
  rw [valV_mk]
  simp only at hT
  subst hT
  go_enter Tryz.func117, Tryz.ntmps117
  go_wp2_with fail
  go_ret
  exact ⟨rfl, below_one _ _⟩
set_option maxHeartbeats 400000 in
theorem numOf_thr (v : V) (s : List UInt8) (W : World) (hT : v.T ≠ 2) : Calls Tryz.prog 117 #[valV v, .string ⟨s.toArray⟩] W (ThrEnd W (str s)) := by
  obtain ⟨T, N, S⟩ := v
  rw [valV_mk]
  simp only at hT
  have bT : (T != 2) = true := by simpa using hT
  have HR := fun W => raise_any s W
  clear hT
  go_enter Tryz.func117, Tryz.ntmps117
  go_wp2_with fail
  refine (HR _).mono ?_; rintro e w1 ⟨rfl, rfl⟩
  go_wp2_with fail
  simp [bodyPost]
  exact ⟨_, rfl, by simp, new_at _ _ (by simp), below_two (below_one _ _) (below_one _ _)⟩
/-- effect, as it answers (ICALL is apart). -/
def effQ (op : Nat) : Int × Int := if op = 26 then (0, 0) else effP op 0
set_option maxHeartbeats 3200000 in
theorem effect_any (op : Nat) (W : World) (ho : op < 256) : Calls Tryz.prog 87 #[.int .u8 (op : Int)] W fun e W' => e = .returned (.tuple #[.int .i8 (effQ op).1, .int .i8 (effQ op).2]) ∧ W' = W := by
  by_cases c : op ≤ 32
  · have : op = 0 ∨ op = 1 ∨ op = 2 ∨ op = 3 ∨ op = 4 ∨ op = 5 ∨ op = 6 ∨ op = 7 ∨ op = 8 ∨ op = 9 ∨ op = 10 ∨ op = 11 ∨ op = 12 ∨ op = 13 ∨ op = 14 ∨ op = 15 ∨ op = 16 ∨ op = 17 ∨ op = 18 ∨ op = 19 ∨ op = 20 ∨ op = 21 ∨ op = 22 ∨ op = 23 ∨ op = 24 ∨ op = 25 ∨ op = 26 ∨ op = 27 ∨ op = 28 ∨ op = 29 ∨ op = 30 ∨ op = 31 ∨ op = 32 := by omega
    clear ho c
    rcases this with rfl | rfl | rfl | rfl | rfl | rfl | rfl | rfl | rfl | rfl | rfl | rfl | rfl | rfl | rfl | rfl | rfl | rfl | rfl | rfl | rfl | rfl | rfl | rfl | rfl | rfl | rfl | rfl | rfl | rfl | rfl | rfl | rfl
    all_goals
      go_enter Tryz.func87, Tryz.ntmps87
      go_wp2_with fail
      refine bodyPost_ret (by simp [results, go_sem]; rfl) rfl ?_
      exact ⟨rfl, rfl⟩
  · have HO : Hid (effQ op = (0, 0)) := by
      show _ = _
      unfold effQ effP
      rw [if_neg (by omega), if_neg (by omega), if_neg (by omega), if_neg (by omega), if_neg (by omega), if_neg (by omega), if_neg (by omega), if_neg (by omega)]
    have hk : ∀ k : Nat, k ≤ 32 → ((op : Int) == (k : Int)) = false := fun k hk => by rw [beq_eq_false_iff_ne]; omega
    have k1 := hk 1 (by omega)
    have k2 := hk 2 (by omega)
    have k3 := hk 3 (by omega)
    have k4 := hk 4 (by omega)
    have k5 := hk 5 (by omega)
    have k6 := hk 6 (by omega)
    have k7 := hk 7 (by omega)
    have k8 := hk 8 (by omega)
    have k9 := hk 9 (by omega)
    have k10 := hk 10 (by omega)
    have k11 := hk 11 (by omega)
    have k12 := hk 12 (by omega)
    have k13 := hk 13 (by omega)
    have k14 := hk 14 (by omega)
    have k15 := hk 15 (by omega)
    have k16 := hk 16 (by omega)
    have k17 := hk 17 (by omega)
    have k18 := hk 18 (by omega)
    have k19 := hk 19 (by omega)
    have k20 := hk 20 (by omega)
    have k22 := hk 22 (by omega)
    have k23 := hk 23 (by omega)
    have k24 := hk 24 (by omega)
    have k25 := hk 25 (by omega)
    have k27 := hk 27 (by omega)
    have k28 := hk 28 (by omega)
    have k31 := hk 31 (by omega)
    have k32 := hk 32 (by omega)
    clear hk c ho
    simp only [Int.cast_ofNat_Int] at *
    go_enter Tryz.func87, Tryz.ntmps87
    go_wp2_with fail
    refine bodyPost_ret (by simp [results, go_sem]; rfl) rfl ?_
    exact ⟨by rw [HO.out], rfl⟩
end Go.Proofs.Qxb6500293aGreatRR
