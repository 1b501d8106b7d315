/-
  THE CATECHISMS, PLAIN: the machine on the three images.
-/
import Derived.Test.Qxb6500293aGreatRRG1
import Derived.Test.Qxb6500293aGreatRRZ5
import Derived.Test.Qxb6500293aGreatRRZ7
namespace Go.Proofs.Qxb6500293aGreatRR
open Ieee (double)
set_option linter.unusedVariables false
set_option linter.unusedSimpArgs false

def catI : List UInt8 := [3, 0, 5, 0, 3, 0, 2, 6, 99, 114, 101, 97, 116, 101, 2, 6, 114, 101, 115, 117, 109, 101, 1, 0, 0, 0, 0, 0, 0, 240, 63, 19, 0, 9, 0, 0, 28, 1, 0, 26, 1, 0, 25, 0, 0, 6, 0, 0, 9, 1, 0, 5, 0, 0, 26, 1, 0, 6, 0, 0, 23, 11, 0, 5, 0, 0, 1, 2, 0, 6, 1, 0, 1, 2, 0, 6, 2, 0, 1, 2, 0, 6, 3, 0, 31, 1, 0, 27, 0, 0, 1, 1, 0, 2, 0, 2, 5, 121, 105, 101, 108, 100, 2, 5, 112, 99, 97, 108, 108, 10, 0, 9, 0, 0, 5, 0, 0, 26, 1, 0, 25, 0, 0, 6, 0, 0, 9, 1, 0, 28, 2, 0, 5, 0, 0, 26, 2, 0, 27, 0, 0, 1, 1, 0, 1, 0, 2, 5, 101, 114, 114, 111, 114, 8, 0, 5, 0, 0, 22, 5, 0, 9, 0, 0, 5, 0, 0, 26, 1, 0, 5, 0, 0, 3, 0, 0, 27, 0, 0]
def spinI : List UInt8 := [2, 0, 0, 0, 1, 0, 2, 5, 112, 99, 97, 108, 108, 4, 0, 9, 0, 0, 28, 1, 0, 26, 1, 0, 27, 0, 0, 0, 0, 0, 0, 0, 1, 0, 21, 0, 0]
def cat2I : List UInt8 := [4, 0, 4, 0, 10, 0, 1, 0, 0, 0, 0, 0, 0, 36, 64, 1, 0, 0, 0, 0, 0, 0, 0, 64, 1, 0, 0, 0, 0, 0, 0, 240, 63, 2, 1, 44, 2, 5, 112, 114, 105, 110, 116, 2, 1, 107, 2, 1, 118, 2, 1, 112, 2, 1, 113, 2, 1, 114, 60, 0, 1, 0, 0, 6, 0, 0, 28, 1, 0, 6, 1, 0, 28, 2, 0, 6, 2, 0, 5, 1, 0, 26, 0, 0, 25, 0, 0, 25, 0, 0, 5, 0, 0, 1, 1, 0, 15, 3, 0, 6, 0, 0, 29, 0, 0, 1, 2, 0, 6, 0, 0, 5, 2, 0, 26, 0, 0, 25, 0, 0, 1, 3, 0, 17, 0, 0, 5, 1, 0, 26, 0, 0, 25, 0, 0, 25, 0, 0, 5, 2, 0, 26, 0, 0, 25, 0, 0, 17, 0, 0, 1, 3, 0, 17, 0, 0, 5, 0, 0, 17, 0, 0, 9, 4, 0, 5, 0, 0, 18, 0, 0, 26, 1, 0, 25, 0, 0, 25, 0, 0, 14, 0, 0, 6, 3, 0, 5, 3, 0, 1, 5, 0, 1, 6, 0, 12, 0, 0, 9, 4, 0, 5, 3, 0, 1, 5, 0, 11, 0, 0, 26, 1, 0, 25, 0, 0, 25, 0, 0, 28, 3, 0, 1, 7, 0, 1, 8, 0, 1, 9, 0, 26, 3, 0, 25, 0, 0, 27, 0, 0, 0, 0, 1, 1, 0, 1, 0, 1, 0, 0, 0, 0, 0, 0, 8, 64, 7, 0, 7, 0, 0, 1, 0, 0, 15, 2, 0, 8, 0, 0, 2, 0, 0, 2, 0, 0, 27, 0, 0, 0, 0, 1, 1, 0, 0, 0, 3, 0, 7, 0, 0, 2, 0, 0, 27, 0, 0, 3, 3, 0, 0, 0, 7, 0, 5, 0, 0, 5, 1, 0, 17, 0, 0, 5, 2, 0, 17, 0, 0, 2, 0, 0, 27, 0, 0]
def spinM : Mc := (execP (loadP spinI 3).1 0 nilV nilV).1
theorem c2a : (loadP cat2I 9).2 = 0 := by kernel_rfl
theorem c2b : (execP (loadP cat2I 9).1 0 nilV nilV).2 = ⟨1, 0, 0, str [49, 52, 44, 49, 49, 44, 49], str [112, 113, 114]⟩ := by kernel_rfl
theorem c2c : (execP (loadP cat2I 9).1 0 nilV nilV).1.out = [102, 97, 108, 115, 101, 10, 118, 10] := by kernel_rfl
theorem c2d : (execP (loadP cat2I 9).1 0 nilV nilV).1.fuel = 2 := by kernel_rfl
theorem c2e : (execP (loadP cat2I 6).1 0 nilV nilV).2 = ⟨5, 0, 9, nilV, nilV⟩ := by kernel_rfl
theorem c2f : (execP (loadP cat2I 6).1 0 nilV nilV).1.out = [102, 97, 108, 115, 101, 10, 118, 10] := by kernel_rfl
theorem c2g : (execP (loadP cat2I 6).1 0 nilV nilV).1.fuel = 0 := by kernel_rfl
theorem c2t : showT (execP (loadP cat2I 6).1 0 nilV nilV).1.tb = showT (loadP cat2I 6).1.tb ++ [91, 115, 49, 58, 107, 61, 115, 49, 58, 118, 59, 93] := by kernel_rfl
theorem spa : (execP (loadP spinI 3).1 0 nilV nilV).2 = ⟨5, 0, 9, nilV, nilV⟩ := by kernel_rfl
theorem spb : (execP (loadP spinI 3).1 0 nilV nilV).1.fuel = 0 := by kernel_rfl
theorem ca : (loadP catI 9).2 = 0 := by kernel_rfl
theorem cb : (execP (loadP catI 9).1 0 nilV nilV).2 = ⟨4, 1, 0, nilV, nilV⟩ := by kernel_rfl
def cM2 : Mc := (execP (loadP catI 9).1 0 nilV nilV).1
theorem cM2l : cM2.tb.length = 1 ∧ cM2.cs.length = 2 ∧ cM2.th.length = 2 ∧ cM2.en = 0 ∧ (cM2.t 1).st = 1 := ⟨by kernel_rfl, by kernel_rfl, by kernel_rfl, by kernel_rfl, by kernel_rfl⟩
def cM3 (x : V) : Mc := (execL (firstP cM2 1 x) 1).1
theorem e2 (x : V) : (execL (firstP cM2 1 x) 1).2 = ⟨3, 0, 0, x, nilV⟩ := by kernel_rfl
theorem cM3l (x : V) : (cM3 x).tb.length = 1 ∧ (cM3 x).cs.length = 2 ∧ (cM3 x).th.length = 2 ∧ (cM3 x).en = 0 ∧ ((cM3 x).t 1).st = 2 := ⟨by kernel_rfl, by kernel_rfl, by kernel_rfl, by kernel_rfl, by kernel_rfl⟩
def cM4 (x y : V) : Mc := (execL (goOnP (cM3 x) 1 y x) 1).1
theorem wf_cases {v : V} (h : wfB v = true) : v.T = 3 ∨ v.T = 0 ∨ (v.T = 1 ∧ (v.N = 0 ∨ v.N = 1)) ∨ v.T = 2 ∨ v.T = 4 ∨ v.T = 5 ∨ v.T = 6 ∨ v.T = 7 := by
  unfold wfB at h
  split at h
  · left; assumption
  split at h
  · rename_i h1 h2
    simp at h2
    obtain ⟨_, g1, g2⟩ := h2
    split at h
    · right; left; assumption
    split at h
    · rename_i h3 h4
      have := of_decide_eq_true h
      right; right; left
      exact ⟨h4, by omega⟩
    · omega
  · cases h
/-- The second time: what goes in comes back, and the error is caught. -/
theorem e3 (x y : V) (hy : wfB y = true) : (execL (goOnP (cM3 x) 1 y x) 1).2 = ⟨1, 0, 0, ⟨1, if truthy y then 0 else 1, []⟩, y⟩ ∧ (cM4 x y).tb.length = 1 ∧ (cM4 x y).cs.length = 3 ∧ (cM4 x y).th.length = 2 ∧ (cM4 x y).en = 0 ∧ ((cM4 x y).t 0).st = 3 := by
  obtain ⟨T, N, S⟩ := y
  have h := wf_cases hy
  have h : T = 3 ∨ T = 0 ∨ (T = 1 ∧ (N = 0 ∨ N = 1)) ∨ T = 2 ∨ T = 4 ∨ T = 5 ∨ T = 6 ∨ T = 7 := h
  clear hy
  rcases h with rfl | rfl | ⟨rfl, rfl | rfl⟩ | rfl | rfl | rfl | rfl | rfl
  all_goals exact ⟨by kernel_rfl, by kernel_rfl, by kernel_rfl, by kernel_rfl, by kernel_rfl, by kernel_rfl⟩
theorem e4_0 (x : V) (N2 : Nat) (S2 : List UInt8) (hx : wfB x = true) : (execL (goOnP (cM4 x ⟨3, N2, S2⟩) 0 x ⟨3, N2, S2⟩) 0).2 = ⟨1, 0, 0, if truthy x then ⟨3, N2, S2⟩ else x, ⟨1, 1, []⟩⟩ ∧ (execL (goOnP (cM4 x ⟨3, N2, S2⟩) 0 x ⟨3, N2, S2⟩) 0).1.fuel = if truthy ⟨3, N2, S2⟩ then 4 else 5 := by
  obtain ⟨T, N, S⟩ := x
  have h := wf_cases hx
  have h : T = 3 ∨ T = 0 ∨ (T = 1 ∧ (N = 0 ∨ N = 1)) ∨ T = 2 ∨ T = 4 ∨ T = 5 ∨ T = 6 ∨ T = 7 := h
  clear hx
  rcases h with rfl | rfl | ⟨rfl, rfl | rfl⟩ | rfl | rfl | rfl | rfl | rfl
  all_goals exact ⟨by kernel_rfl, by kernel_rfl⟩
theorem e4_1 (x : V) (N2 : Nat) (S2 : List UInt8) (hx : wfB x = true) : (execL (goOnP (cM4 x ⟨0, N2, S2⟩) 0 x ⟨0, N2, S2⟩) 0).2 = ⟨1, 0, 0, if truthy x then ⟨0, N2, S2⟩ else x, ⟨1, 1, []⟩⟩ ∧ (execL (goOnP (cM4 x ⟨0, N2, S2⟩) 0 x ⟨0, N2, S2⟩) 0).1.fuel = if truthy ⟨0, N2, S2⟩ then 4 else 5 := by
  obtain ⟨T, N, S⟩ := x
  have h := wf_cases hx
  have h : T = 3 ∨ T = 0 ∨ (T = 1 ∧ (N = 0 ∨ N = 1)) ∨ T = 2 ∨ T = 4 ∨ T = 5 ∨ T = 6 ∨ T = 7 := h
  clear hx
  rcases h with rfl | rfl | ⟨rfl, rfl | rfl⟩ | rfl | rfl | rfl | rfl | rfl
  all_goals exact ⟨by kernel_rfl, by kernel_rfl⟩
theorem e4_2 (x : V) (N2 : Nat) (S2 : List UInt8) (hx : wfB x = true) : (execL (goOnP (cM4 x ⟨1, 0, S2⟩) 0 x ⟨1, 0, S2⟩) 0).2 = ⟨1, 0, 0, if truthy x then ⟨1, 0, S2⟩ else x, ⟨1, 1, []⟩⟩ ∧ (execL (goOnP (cM4 x ⟨1, 0, S2⟩) 0 x ⟨1, 0, S2⟩) 0).1.fuel = if truthy ⟨1, 0, S2⟩ then 4 else 5 := by
  obtain ⟨T, N, S⟩ := x
  have h := wf_cases hx
  have h : T = 3 ∨ T = 0 ∨ (T = 1 ∧ (N = 0 ∨ N = 1)) ∨ T = 2 ∨ T = 4 ∨ T = 5 ∨ T = 6 ∨ T = 7 := h
  clear hx
  rcases h with rfl | rfl | ⟨rfl, rfl | rfl⟩ | rfl | rfl | rfl | rfl | rfl
  all_goals exact ⟨by kernel_rfl, by kernel_rfl⟩
theorem e4_3 (x : V) (N2 : Nat) (S2 : List UInt8) (hx : wfB x = true) : (execL (goOnP (cM4 x ⟨1, 1, S2⟩) 0 x ⟨1, 1, S2⟩) 0).2 = ⟨1, 0, 0, if truthy x then ⟨1, 1, S2⟩ else x, ⟨1, 1, []⟩⟩ ∧ (execL (goOnP (cM4 x ⟨1, 1, S2⟩) 0 x ⟨1, 1, S2⟩) 0).1.fuel = if truthy ⟨1, 1, S2⟩ then 4 else 5 := by
  obtain ⟨T, N, S⟩ := x
  have h := wf_cases hx
  have h : T = 3 ∨ T = 0 ∨ (T = 1 ∧ (N = 0 ∨ N = 1)) ∨ T = 2 ∨ T = 4 ∨ T = 5 ∨ T = 6 ∨ T = 7 := h
  clear hx
  rcases h with rfl | rfl | ⟨rfl, rfl | rfl⟩ | rfl | rfl | rfl | rfl | rfl
  all_goals exact ⟨by kernel_rfl, by kernel_rfl⟩
theorem e4_4 (x : V) (N2 : Nat) (S2 : List UInt8) (hx : wfB x = true) : (execL (goOnP (cM4 x ⟨2, N2, S2⟩) 0 x ⟨2, N2, S2⟩) 0).2 = ⟨1, 0, 0, if truthy x then ⟨2, N2, S2⟩ else x, ⟨1, 1, []⟩⟩ ∧ (execL (goOnP (cM4 x ⟨2, N2, S2⟩) 0 x ⟨2, N2, S2⟩) 0).1.fuel = if truthy ⟨2, N2, S2⟩ then 4 else 5 := by
  obtain ⟨T, N, S⟩ := x
  have h := wf_cases hx
  have h : T = 3 ∨ T = 0 ∨ (T = 1 ∧ (N = 0 ∨ N = 1)) ∨ T = 2 ∨ T = 4 ∨ T = 5 ∨ T = 6 ∨ T = 7 := h
  clear hx
  rcases h with rfl | rfl | ⟨rfl, rfl | rfl⟩ | rfl | rfl | rfl | rfl | rfl
  all_goals exact ⟨by kernel_rfl, by kernel_rfl⟩
theorem e4_5 (x : V) (N2 : Nat) (S2 : List UInt8) (hx : wfB x = true) : (execL (goOnP (cM4 x ⟨4, N2, S2⟩) 0 x ⟨4, N2, S2⟩) 0).2 = ⟨1, 0, 0, if truthy x then ⟨4, N2, S2⟩ else x, ⟨1, 1, []⟩⟩ ∧ (execL (goOnP (cM4 x ⟨4, N2, S2⟩) 0 x ⟨4, N2, S2⟩) 0).1.fuel = if truthy ⟨4, N2, S2⟩ then 4 else 5 := by
  obtain ⟨T, N, S⟩ := x
  have h := wf_cases hx
  have h : T = 3 ∨ T = 0 ∨ (T = 1 ∧ (N = 0 ∨ N = 1)) ∨ T = 2 ∨ T = 4 ∨ T = 5 ∨ T = 6 ∨ T = 7 := h
  clear hx
  rcases h with rfl | rfl | ⟨rfl, rfl | rfl⟩ | rfl | rfl | rfl | rfl | rfl
  all_goals exact ⟨by kernel_rfl, by kernel_rfl⟩
theorem e4_6 (x : V) (N2 : Nat) (S2 : List UInt8) (hx : wfB x = true) : (execL (goOnP (cM4 x ⟨5, N2, S2⟩) 0 x ⟨5, N2, S2⟩) 0).2 = ⟨1, 0, 0, if truthy x then ⟨5, N2, S2⟩ else x, ⟨1, 1, []⟩⟩ ∧ (execL (goOnP (cM4 x ⟨5, N2, S2⟩) 0 x ⟨5, N2, S2⟩) 0).1.fuel = if truthy ⟨5, N2, S2⟩ then 4 else 5 := by
  obtain ⟨T, N, S⟩ := x
  have h := wf_cases hx
  have h : T = 3 ∨ T = 0 ∨ (T = 1 ∧ (N = 0 ∨ N = 1)) ∨ T = 2 ∨ T = 4 ∨ T = 5 ∨ T = 6 ∨ T = 7 := h
  clear hx
  rcases h with rfl | rfl | ⟨rfl, rfl | rfl⟩ | rfl | rfl | rfl | rfl | rfl
  all_goals exact ⟨by kernel_rfl, by kernel_rfl⟩
theorem e4_7 (x : V) (N2 : Nat) (S2 : List UInt8) (hx : wfB x = true) : (execL (goOnP (cM4 x ⟨6, N2, S2⟩) 0 x ⟨6, N2, S2⟩) 0).2 = ⟨1, 0, 0, if truthy x then ⟨6, N2, S2⟩ else x, ⟨1, 1, []⟩⟩ ∧ (execL (goOnP (cM4 x ⟨6, N2, S2⟩) 0 x ⟨6, N2, S2⟩) 0).1.fuel = if truthy ⟨6, N2, S2⟩ then 4 else 5 := by
  obtain ⟨T, N, S⟩ := x
  have h := wf_cases hx
  have h : T = 3 ∨ T = 0 ∨ (T = 1 ∧ (N = 0 ∨ N = 1)) ∨ T = 2 ∨ T = 4 ∨ T = 5 ∨ T = 6 ∨ T = 7 := h
  clear hx
  rcases h with rfl | rfl | ⟨rfl, rfl | rfl⟩ | rfl | rfl | rfl | rfl | rfl
  all_goals exact ⟨by kernel_rfl, by kernel_rfl⟩
theorem e4_8 (x : V) (N2 : Nat) (S2 : List UInt8) (hx : wfB x = true) : (execL (goOnP (cM4 x ⟨7, N2, S2⟩) 0 x ⟨7, N2, S2⟩) 0).2 = ⟨1, 0, 0, if truthy x then ⟨7, N2, S2⟩ else x, ⟨1, 1, []⟩⟩ ∧ (execL (goOnP (cM4 x ⟨7, N2, S2⟩) 0 x ⟨7, N2, S2⟩) 0).1.fuel = if truthy ⟨7, N2, S2⟩ then 4 else 5 := by
  obtain ⟨T, N, S⟩ := x
  have h := wf_cases hx
  have h : T = 3 ∨ T = 0 ∨ (T = 1 ∧ (N = 0 ∨ N = 1)) ∨ T = 2 ∨ T = 4 ∨ T = 5 ∨ T = 6 ∨ T = 7 := h
  clear hx
  rcases h with rfl | rfl | ⟨rfl, rfl | rfl⟩ | rfl | rfl | rfl | rfl | rfl
  all_goals exact ⟨by kernel_rfl, by kernel_rfl⟩
theorem e4 (x y : V) (hx : wfB x = true) (hy : wfB y = true) : (execL (goOnP (cM4 x y) 0 x y) 0).2 = ⟨1, 0, 0, if truthy x then y else x, ⟨1, 1, []⟩⟩ ∧ (execL (goOnP (cM4 x y) 0 x y) 0).1.fuel = if truthy y then 4 else 5 := by
  obtain ⟨T, N2, S2⟩ := y
  have h := wf_cases hy
  have h : T = 3 ∨ T = 0 ∨ (T = 1 ∧ (N2 = 0 ∨ N2 = 1)) ∨ T = 2 ∨ T = 4 ∨ T = 5 ∨ T = 6 ∨ T = 7 := h
  clear hy
  rcases h with rfl | rfl | ⟨rfl, rfl | rfl⟩ | rfl | rfl | rfl | rfl | rfl
  · exact e4_0 x N2 S2 hx
  · exact e4_1 x N2 S2 hx
  · exact e4_2 x 0 S2 hx
  · exact e4_3 x 0 S2 hx
  · exact e4_4 x N2 S2 hx
  · exact e4_5 x N2 S2 hx
  · exact e4_6 x N2 S2 hx
  · exact e4_7 x N2 S2 hx
  · exact e4_8 x N2 S2 hx
theorem valid_fit {M : Mc} (h1 : M.tb.length = 1) (h2 : M.cs.length = 2) (h3 : M.th.length = 2) (v : V) : validP M v = fitP v := by
  unfold validP fitP
  rw [h1, h2, h3]
  by_cases c2 : v.T = 2
  · simp [c2]
  by_cases c4 : v.T = 4
  · simp [c4]
  by_cases c5 : v.T = 5
  · simp [c5]
  by_cases c7 : v.T = 7
  · simp [c7]
  simp [c2, c4, c5, c7]
theorem fit_valid {M : Mc} (h1 : 1 ≤ M.tb.length) (h2 : 2 ≤ M.cs.length) (h3 : 2 ≤ M.th.length) {v : V} (h : fitP v = true) : validP M v = true := by
  unfold validP
  unfold fitP at h
  rw [Bool.and_eq_true] at h ⊢
  refine ⟨h.1, ?_⟩
  have h := h.2
  by_cases c2 : v.T = 2
  · simp [c2] at h ⊢
    exact h
  by_cases c4 : v.T = 4
  · simp [c4] at h ⊢
    omega
  by_cases c5 : v.T = 5
  · simp [c5] at h ⊢
    omega
  by_cases c7 : v.T = 7
  · simp [c7] at h ⊢
    omega
  simp [c2, c4, c5, c7]
theorem fit_wf {v : V} (h : fitP v = true) : wfB v = true := by
  unfold fitP at h
  exact (Bool.and_eq_true_iff.1 h).1
/-- The four plays. -/
theorem play2 (x y : V) (hx : fitP x = true) (hy : fitP y = true) : execP cM2 1 x y = (cM3 x, ⟨3, 0, 0, x, nilV⟩) := by
  obtain ⟨l1, l2, l3, l4, l5⟩ := cM2l
  unfold execP
  rw [show Int.toNat 1 = 1 from rfl, if_neg (by rw [l3, l4]; decide), if_neg (by rw [valid_fit l1 l2 l3, valid_fit l1 l2 l3, hx, hy]; decide), if_pos l5]
  have h := e2 x
  unfold cM3
  rw [← h]
theorem play2_bad (x y : V) (h : fitP x = false ∨ fitP y = false) : execP cM2 1 x y = (cM2, badEv) := by
  obtain ⟨l1, l2, l3, l4, l5⟩ := cM2l
  unfold execP
  rw [if_neg (by rw [l3, l4]; decide), if_pos (by rw [valid_fit l1 l2 l3, valid_fit l1 l2 l3]; exact h)]
theorem play3 (x y : V) (hx : fitP x = true) (hy : fitP y = true) : execP (cM3 x) 1 y x = (cM4 x y, ⟨1, 0, 0, ⟨1, if truthy y then 0 else 1, []⟩, y⟩) := by
  obtain ⟨l1, l2, l3, l4, l5⟩ := cM3l x
  unfold execP
  rw [show Int.toNat 1 = 1 from rfl, if_neg (by rw [l3, l4]; decide), if_neg (by rw [valid_fit l1 l2 l3, valid_fit l1 l2 l3, hx, hy]; decide), if_neg (by show ¬ ((cM3 x).t 1).st = 1; rw [l5]; decide), if_pos (.inl l5)]
  have h := (e3 x y (fit_wf hy)).1
  unfold cM4
  rw [← h]
theorem play4 (x y : V) (hx : fitP x = true) (hy : fitP y = true) : (execP (cM4 x y) 0 x y).2 = ⟨1, 0, 0, if truthy x then y else x, ⟨1, 1, []⟩⟩ ∧ (execP (cM4 x y) 0 x y).1.fuel = if truthy y then 4 else 5 := by
  obtain ⟨l1, l2, l3, l4, l5⟩ := (e3 x y (fit_wf hy)).2
  have h : execP (cM4 x y) 0 x y = execL (goOnP (cM4 x y) 0 x y) 0 := by
    unfold execP
    rw [show Int.toNat 0 = 0 from rfl, if_neg (by rw [l3, l4]; decide), if_neg (by rw [fit_valid (by omega) (by omega) (by omega) hx, fit_valid (by omega) (by omega) (by omega) hy]; decide), if_neg (by show ¬ ((cM4 x y).t 0).st = 1; rw [l5]; decide), if_pos (.inr l5)]
  rw [h]
  exact e4 x y (fit_wf hx) (fit_wf hy)
end Go.Proofs.Qxb6500293aGreatRR
