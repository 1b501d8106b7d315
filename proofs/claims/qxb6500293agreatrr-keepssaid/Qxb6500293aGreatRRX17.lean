/-
  The small functions: Truthy, Bool, StatusName, TypeName, BuiltinName, tabOf, numOf.
-/
import Derived.Test.Qxb6500293aGreatRRX16
namespace Go.Proofs.Qxb6500293aGreatRR
open Go.RowKit
set_option linter.unusedVariables false
set_option linter.unusedSimpArgs false

set_option maxHeartbeats 400000 in
theorem truthy_any (v : V) (W : World) : Calls Tryz.prog 39 #[valV v] W fun e W' => e = .returned (.bool (truthy v)) ∧ Below W.heap.size W W' := by
  obtain ⟨T, N, S⟩ := v
  rw [valV_mk]
  by_cases h0 : T = 0
  · have HO : Hid (truthy ⟨T, N, S⟩ = false) := by show _ = _; unfold truthy; simp [h0]
    subst h0
    go_enter Tryz.func39, Tryz.ntmps39
    go_wp2
    go_ret
    exact ⟨by rw [HO.out]; rfl, below_one _ _⟩
  · have b0 : (T == 0) = false := by simpa using h0
    by_cases h1 : T = 1
    · subst h1
      by_cases hN : N = 0
      · have HO : Hid (truthy ⟨1, N, S⟩ = false) := by show _ = _; unfold truthy; simp [hN]
        subst hN
        go_enter Tryz.func39, Tryz.ntmps39
        go_wp2
        go_ret
        exact ⟨by rw [HO.out]; rfl, below_one _ _⟩
      · have HO : Hid (truthy ⟨1, N, S⟩ = true) := by show _ = _; unfold truthy; simp [hN]
        have bN : ((N : Int) != 0) = true := by rw [bne_iff_ne]; omega
        clear hN h0
        go_enter Tryz.func39, Tryz.ntmps39
        go_wp2
        go_ret
        exact ⟨by rw [HO.out]; rfl, below_one _ _⟩
    · have HO : Hid (truthy ⟨T, N, S⟩ = true) := by show _ = _; unfold truthy; simp [h0, h1]
      have b1 : (T != 1) = true := by simpa using h1
      clear h0 h1
      go_enter Tryz.func39, Tryz.ntmps39
      go_wp2
      go_ret
      exact ⟨by rw [HO.out]; rfl, below_one _ _⟩
set_option maxHeartbeats 400000 in
theorem bool_any (b : Bool) (W : World) : Calls Tryz.prog 40 #[.bool b] W fun e W' => e = .returned (valV (boolV b)) ∧ Below W.heap.size W W' := by
  cases b
  · go_enter Tryz.func40, Tryz.ntmps40
    go_wp2
    refine bodyPost_ret (v := .agg #[.int .i64 1, .int .u64 0, .string ⟨#[]⟩]) (by simp [results, go_sem]) rfl ?_
    exact ⟨rfl, below_one _ _⟩
  · go_enter Tryz.func40, Tryz.ntmps40
    go_wp2
    refine bodyPost_ret (v := .agg #[.int .i64 1, .int .u64 1, .string ⟨#[]⟩]) (by simp [results, go_sem]) rfl ?_
    exact ⟨rfl, below_one _ _⟩
def stName (st : Nat) : List UInt8 := if st = 1 ∨ st = 2 then [115, 117, 115, 112, 101, 110, 100, 101, 100] else if st = 3 then [110, 111, 114, 109, 97, 108] else if st = 4 then [114, 117, 110, 110, 105, 110, 103] else [100, 101, 97, 100]
set_option maxHeartbeats 400000 in
theorem stName_any (st : Nat) (W : World) (hs : st ≤ 5) : Calls Tryz.prog 95 #[i64 st] W fun e W' => e = .returned (.string ⟨(stName st).toArray⟩) ∧ W' = W := by
  rcases (by omega : st = 0 ∨ st = 1 ∨ st = 2 ∨ st = 3 ∨ st = 4 ∨ st = 5) with rfl | rfl | rfl | rfl | rfl | rfl
  all_goals
    go_enter Tryz.func95, Tryz.ntmps95
    go_wp2
    go_ret
    exact ⟨rfl, rfl⟩
def tyName (T : Int) : List UInt8 := if T = 0 then [110, 105, 108] else if T = 1 then [98, 111, 111, 108, 101, 97, 110] else if T = 2 then [110, 117, 109, 98, 101, 114] else if T = 3 then [115, 116, 114, 105, 110, 103] else if T = 4 then [116, 97, 98, 108, 101] else if T = 7 then [116, 104, 114, 101, 97, 100] else [102, 117, 110, 99, 116, 105, 111, 110]
set_option maxHeartbeats 800000 in
theorem tyName_any (v : V) (W : World) (hv : wfB v = true) : Calls Tryz.prog 113 #[valV v] W fun e W' => e = .returned (.string ⟨(tyName v.T).toArray⟩) ∧ Below W.heap.size W W' := by
  have hT : 0 ≤ v.T ∧ v.T ≤ 7 := by
    by_cases h3 : v.T = 3
    · omega
    · have := wf_other hv h3
      omega
  obtain ⟨T, N, S⟩ := v
  rw [valV_mk]
  simp only at hT
  clear hv
  rcases (by omega : T = 0 ∨ T = 1 ∨ T = 2 ∨ T = 3 ∨ T = 4 ∨ T = 5 ∨ T = 6 ∨ T = 7) with rfl | rfl | rfl | rfl | rfl | rfl | rfl | rfl
  all_goals
    clear hT
    go_enter Tryz.func113, Tryz.ntmps113
    go_wp2
    go_ret
    exact ⟨rfl, below_one _ _⟩
def buName (b : Nat) : List UInt8 :=
  if b = 1 then [112, 114, 105, 110, 116] else if b = 2 then [116, 111, 115, 116, 114, 105, 110, 103] else if b = 3 then [116, 111, 110, 117, 109, 98, 101, 114] else if b = 4 then [116, 121, 112, 101] else if b = 5 then [101, 114, 114, 111, 114]
  else if b = 6 then [112, 99, 97, 108, 108] else if b = 7 then [110, 101, 120, 116] else if b = 8 then [99, 114, 101, 97, 116, 101] else if b = 9 then [114, 101, 115, 117, 109, 101] else if b = 10 then [121, 105, 101, 108, 100] else if b = 11 then [115, 116, 97, 116, 117, 115] else []
set_option maxHeartbeats 1600000 in
theorem buName_any (b : Nat) (W : World) (h1 : 1 ≤ b) (h2 : b ≤ 11) : Calls Tryz.prog 55 #[i64 b] W fun e W' => e = .returned (.string ⟨(buName b).toArray⟩) ∧ W' = W := by
  rcases (by omega : b = 1 ∨ b = 2 ∨ b = 3 ∨ b = 4 ∨ b = 5 ∨ b = 6 ∨ b = 7 ∨ b = 8 ∨ b = 9 ∨ b = 10 ∨ b = 11) with rfl | rfl | rfl | rfl | rfl | rfl | rfl | rfl | rfl | rfl | rfl
  all_goals
    clear h1 h2
    go_enter Tryz.func55, Tryz.ntmps55
    go_wp2
    go_ret
    exact ⟨rfl, rfl⟩
end Go.Proofs.Qxb6500293aGreatRR
