/-
  sound walked: the instructions without a region of their own.
-/
import Derived.Test.Qxb6500293aGreatRRY21
namespace Go.Proofs.Qxb6500293aGreatRR
open Go.RowKit
open Ieee (double)
set_option linter.unusedVariables false
set_option linter.unusedSimpArgs false
/-- What sound reads at every instruction. -/
structure SoC (W : World) (m fb n pb P clo nup ns nk nc cb cl ccp : Nat) : Prop where
  m6 : W.cell? ⟨m, 6, none⟩ = some (.slice (some ⟨cb, 0, none⟩) cl ccp)
  hc : clo < cl
  c9 : cl ≤ 100
  c2 : W.cell? ⟨cb, clo * 3 + 2, none⟩ = some (i64 nup)
  f0 : W.cell? ⟨fb, n * 5, none⟩ = some (i64 clo)
  p1 : W.cell? ⟨pb, P * 8 + 1, none⟩ = some (i64 ns)
  p5 : W.cell? ⟨pb, P * 8 + 5, none⟩ = some (i64 nk)
  p7 : W.cell? ⟨pb, P * 8 + 7, none⟩ = some (i64 nc)
set_option maxRecDepth 16000 in
set_option maxHeartbeats 1000000 in
theorem sound_1 {W : World} {m fb n pb P clo nup ns nk nc cb cl ccp a i : Nat} (h : SoC W m fb n pb P clo nup ns nk nc cb cl ccp) (x : Nat) (hx : x < 65536) :
    Calls Tryz.prog 86 #[.pointer (some ⟨m, 0, none⟩), .pointer (some ⟨a, i * 5, none⟩), .pointer (some ⟨fb, n * 5, none⟩), .pointer (some ⟨pb, P * 8, none⟩), .int .u8 1, i64 x] W fun e w' => e = .returned (.bool (decide (x < nk))) ∧ Below W.heap.size W w' := by
  obtain ⟨m6, hc, c9, c2, f0, p1, p5, p7⟩ := h
  by_cases hb : x < nk
  · rw [decide_eq_true hb]
    have hb' : (x : Int) < (nk : Int) := by omega
    go_enter Tryz.func86, Tryz.ntmps86
    go_wp2_with fail
    go_quiet (fail)
    go_wp2_with fail
    refine bodyPost_ret (v := .bool true) (by first | (simp [results, go_sem]; done) | (simp [results, go_sem]; omega)) rfl ?_
    exact ⟨rfl, below_drewN (Below.refl _ _) _⟩
  · rw [decide_eq_false hb]
    have hb' : ¬ (x : Int) < (nk : Int) := by omega
    go_enter Tryz.func86, Tryz.ntmps86
    go_wp2_with fail
    go_quiet (fail)
    go_wp2_with fail
    refine bodyPost_ret (v := .bool false) (by first | (simp [results, go_sem]; done) | (simp [results, go_sem]; omega)) rfl ?_
    exact ⟨rfl, below_drewN (Below.refl _ _) _⟩
set_option maxRecDepth 16000 in
set_option maxHeartbeats 1000000 in
theorem sound_5 {W : World} {m fb n pb P clo nup ns nk nc cb cl ccp a i : Nat} (h : SoC W m fb n pb P clo nup ns nk nc cb cl ccp) (x : Nat) (hx : x < 65536) :
    Calls Tryz.prog 86 #[.pointer (some ⟨m, 0, none⟩), .pointer (some ⟨a, i * 5, none⟩), .pointer (some ⟨fb, n * 5, none⟩), .pointer (some ⟨pb, P * 8, none⟩), .int .u8 5, i64 x] W fun e w' => e = .returned (.bool (decide (x < ns))) ∧ Below W.heap.size W w' := by
  obtain ⟨m6, hc, c9, c2, f0, p1, p5, p7⟩ := h
  by_cases hb : x < ns
  · rw [decide_eq_true hb]
    have hb' : (x : Int) < (ns : Int) := by omega
    go_enter Tryz.func86, Tryz.ntmps86
    go_wp2_with fail
    go_quiet (fail)
    go_wp2_with fail
    refine bodyPost_ret (v := .bool true) (by first | (simp [results, go_sem]; done) | (simp [results, go_sem]; omega)) rfl ?_
    exact ⟨rfl, below_drewN (Below.refl _ _) _⟩
  · rw [decide_eq_false hb]
    have hb' : ¬ (x : Int) < (ns : Int) := by omega
    go_enter Tryz.func86, Tryz.ntmps86
    go_wp2_with fail
    go_quiet (fail)
    go_wp2_with fail
    refine bodyPost_ret (v := .bool false) (by first | (simp [results, go_sem]; done) | (simp [results, go_sem]; omega)) rfl ?_
    exact ⟨rfl, below_drewN (Below.refl _ _) _⟩
set_option maxRecDepth 16000 in
set_option maxHeartbeats 1000000 in
theorem sound_6 {W : World} {m fb n pb P clo nup ns nk nc cb cl ccp a i : Nat} (h : SoC W m fb n pb P clo nup ns nk nc cb cl ccp) (x : Nat) (hx : x < 65536) :
    Calls Tryz.prog 86 #[.pointer (some ⟨m, 0, none⟩), .pointer (some ⟨a, i * 5, none⟩), .pointer (some ⟨fb, n * 5, none⟩), .pointer (some ⟨pb, P * 8, none⟩), .int .u8 6, i64 x] W fun e w' => e = .returned (.bool (decide (x < ns))) ∧ Below W.heap.size W w' := by
  obtain ⟨m6, hc, c9, c2, f0, p1, p5, p7⟩ := h
  by_cases hb : x < ns
  · rw [decide_eq_true hb]
    have hb' : (x : Int) < (ns : Int) := by omega
    go_enter Tryz.func86, Tryz.ntmps86
    go_wp2_with fail
    go_quiet (fail)
    go_wp2_with fail
    refine bodyPost_ret (v := .bool true) (by first | (simp [results, go_sem]; done) | (simp [results, go_sem]; omega)) rfl ?_
    exact ⟨rfl, below_drewN (Below.refl _ _) _⟩
  · rw [decide_eq_false hb]
    have hb' : ¬ (x : Int) < (ns : Int) := by omega
    go_enter Tryz.func86, Tryz.ntmps86
    go_wp2_with fail
    go_quiet (fail)
    go_wp2_with fail
    refine bodyPost_ret (v := .bool false) (by first | (simp [results, go_sem]; done) | (simp [results, go_sem]; omega)) rfl ?_
    exact ⟨rfl, below_drewN (Below.refl _ _) _⟩
set_option maxRecDepth 16000 in
set_option maxHeartbeats 1000000 in
theorem sound_7 {W : World} {m fb n pb P clo nup ns nk nc cb cl ccp a i : Nat} (h : SoC W m fb n pb P clo nup ns nk nc cb cl ccp) (x : Nat) (hx : x < 65536) :
    Calls Tryz.prog 86 #[.pointer (some ⟨m, 0, none⟩), .pointer (some ⟨a, i * 5, none⟩), .pointer (some ⟨fb, n * 5, none⟩), .pointer (some ⟨pb, P * 8, none⟩), .int .u8 7, i64 x] W fun e w' => e = .returned (.bool (decide (x < nup))) ∧ Below W.heap.size W w' := by
  obtain ⟨m6, hc, c9, c2, f0, p1, p5, p7⟩ := h
  by_cases hb : x < nup
  · rw [decide_eq_true hb]
    have hb' : (x : Int) < (nup : Int) := by omega
    go_enter Tryz.func86, Tryz.ntmps86
    go_wp2_with fail
    go_quiet (fail)
    go_wp2_with fail
    refine bodyPost_ret (v := .bool true) (by first | (simp [results, go_sem]; done) | (simp [results, go_sem]; omega)) rfl ?_
    exact ⟨rfl, below_drewN (Below.refl _ _) _⟩
  · rw [decide_eq_false hb]
    have hb' : ¬ (x : Int) < (nup : Int) := by omega
    go_enter Tryz.func86, Tryz.ntmps86
    go_wp2_with fail
    go_quiet (fail)
    go_wp2_with fail
    refine bodyPost_ret (v := .bool false) (by first | (simp [results, go_sem]; done) | (simp [results, go_sem]; omega)) rfl ?_
    exact ⟨rfl, below_drewN (Below.refl _ _) _⟩
set_option maxRecDepth 16000 in
set_option maxHeartbeats 1000000 in
theorem sound_8 {W : World} {m fb n pb P clo nup ns nk nc cb cl ccp a i : Nat} (h : SoC W m fb n pb P clo nup ns nk nc cb cl ccp) (x : Nat) (hx : x < 65536) :
    Calls Tryz.prog 86 #[.pointer (some ⟨m, 0, none⟩), .pointer (some ⟨a, i * 5, none⟩), .pointer (some ⟨fb, n * 5, none⟩), .pointer (some ⟨pb, P * 8, none⟩), .int .u8 8, i64 x] W fun e w' => e = .returned (.bool (decide (x < nup))) ∧ Below W.heap.size W w' := by
  obtain ⟨m6, hc, c9, c2, f0, p1, p5, p7⟩ := h
  by_cases hb : x < nup
  · rw [decide_eq_true hb]
    have hb' : (x : Int) < (nup : Int) := by omega
    go_enter Tryz.func86, Tryz.ntmps86
    go_wp2_with fail
    go_quiet (fail)
    go_wp2_with fail
    refine bodyPost_ret (v := .bool true) (by first | (simp [results, go_sem]; done) | (simp [results, go_sem]; omega)) rfl ?_
    exact ⟨rfl, below_drewN (Below.refl _ _) _⟩
  · rw [decide_eq_false hb]
    have hb' : ¬ (x : Int) < (nup : Int) := by omega
    go_enter Tryz.func86, Tryz.ntmps86
    go_wp2_with fail
    go_quiet (fail)
    go_wp2_with fail
    refine bodyPost_ret (v := .bool false) (by first | (simp [results, go_sem]; done) | (simp [results, go_sem]; omega)) rfl ?_
    exact ⟨rfl, below_drewN (Below.refl _ _) _⟩
set_option maxRecDepth 16000 in
set_option maxHeartbeats 1000000 in
theorem sound_21 {W : World} {m fb n pb P clo nup ns nk nc cb cl ccp a i : Nat} (h : SoC W m fb n pb P clo nup ns nk nc cb cl ccp) (x : Nat) (hx : x < 65536) :
    Calls Tryz.prog 86 #[.pointer (some ⟨m, 0, none⟩), .pointer (some ⟨a, i * 5, none⟩), .pointer (some ⟨fb, n * 5, none⟩), .pointer (some ⟨pb, P * 8, none⟩), .int .u8 21, i64 x] W fun e w' => e = .returned (.bool (decide (x < nc))) ∧ Below W.heap.size W w' := by
  obtain ⟨m6, hc, c9, c2, f0, p1, p5, p7⟩ := h
  by_cases hb : x < nc
  · rw [decide_eq_true hb]
    have hb' : (x : Int) < (nc : Int) := by omega
    go_enter Tryz.func86, Tryz.ntmps86
    go_wp2_with fail
    go_quiet (fail)
    go_wp2_with fail
    refine bodyPost_ret (v := .bool true) (by first | (simp [results, go_sem]; done) | (simp [results, go_sem]; omega)) rfl ?_
    exact ⟨rfl, below_drewN (Below.refl _ _) _⟩
  · rw [decide_eq_false hb]
    have hb' : ¬ (x : Int) < (nc : Int) := by omega
    go_enter Tryz.func86, Tryz.ntmps86
    go_wp2_with fail
    go_quiet (fail)
    go_wp2_with fail
    refine bodyPost_ret (v := .bool false) (by first | (simp [results, go_sem]; done) | (simp [results, go_sem]; omega)) rfl ?_
    exact ⟨rfl, below_drewN (Below.refl _ _) _⟩
set_option maxRecDepth 16000 in
set_option maxHeartbeats 1000000 in
theorem sound_22 {W : World} {m fb n pb P clo nup ns nk nc cb cl ccp a i : Nat} (h : SoC W m fb n pb P clo nup ns nk nc cb cl ccp) (x : Nat) (hx : x < 65536) :
    Calls Tryz.prog 86 #[.pointer (some ⟨m, 0, none⟩), .pointer (some ⟨a, i * 5, none⟩), .pointer (some ⟨fb, n * 5, none⟩), .pointer (some ⟨pb, P * 8, none⟩), .int .u8 22, i64 x] W fun e w' => e = .returned (.bool (decide (x < nc))) ∧ Below W.heap.size W w' := by
  obtain ⟨m6, hc, c9, c2, f0, p1, p5, p7⟩ := h
  by_cases hb : x < nc
  · rw [decide_eq_true hb]
    have hb' : (x : Int) < (nc : Int) := by omega
    go_enter Tryz.func86, Tryz.ntmps86
    go_wp2_with fail
    go_quiet (fail)
    go_wp2_with fail
    refine bodyPost_ret (v := .bool true) (by first | (simp [results, go_sem]; done) | (simp [results, go_sem]; omega)) rfl ?_
    exact ⟨rfl, below_drewN (Below.refl _ _) _⟩
  · rw [decide_eq_false hb]
    have hb' : ¬ (x : Int) < (nc : Int) := by omega
    go_enter Tryz.func86, Tryz.ntmps86
    go_wp2_with fail
    go_quiet (fail)
    go_wp2_with fail
    refine bodyPost_ret (v := .bool false) (by first | (simp [results, go_sem]; done) | (simp [results, go_sem]; omega)) rfl ?_
    exact ⟨rfl, below_drewN (Below.refl _ _) _⟩
set_option maxRecDepth 16000 in
set_option maxHeartbeats 1000000 in
theorem sound_23 {W : World} {m fb n pb P clo nup ns nk nc cb cl ccp a i : Nat} (h : SoC W m fb n pb P clo nup ns nk nc cb cl ccp) (x : Nat) (hx : x < 65536) :
    Calls Tryz.prog 86 #[.pointer (some ⟨m, 0, none⟩), .pointer (some ⟨a, i * 5, none⟩), .pointer (some ⟨fb, n * 5, none⟩), .pointer (some ⟨pb, P * 8, none⟩), .int .u8 23, i64 x] W fun e w' => e = .returned (.bool (decide (x < nc))) ∧ Below W.heap.size W w' := by
  obtain ⟨m6, hc, c9, c2, f0, p1, p5, p7⟩ := h
  by_cases hb : x < nc
  · rw [decide_eq_true hb]
    have hb' : (x : Int) < (nc : Int) := by omega
    go_enter Tryz.func86, Tryz.ntmps86
    go_wp2_with fail
    go_quiet (fail)
    go_wp2_with fail
    refine bodyPost_ret (v := .bool true) (by first | (simp [results, go_sem]; done) | (simp [results, go_sem]; omega)) rfl ?_
    exact ⟨rfl, below_drewN (Below.refl _ _) _⟩
  · rw [decide_eq_false hb]
    have hb' : ¬ (x : Int) < (nc : Int) := by omega
    go_enter Tryz.func86, Tryz.ntmps86
    go_wp2_with fail
    go_quiet (fail)
    go_wp2_with fail
    refine bodyPost_ret (v := .bool false) (by first | (simp [results, go_sem]; done) | (simp [results, go_sem]; omega)) rfl ?_
    exact ⟨rfl, below_drewN (Below.refl _ _) _⟩
set_option maxRecDepth 16000 in
set_option maxHeartbeats 1000000 in
theorem sound_24 {W : World} {m fb n pb P clo nup ns nk nc cb cl ccp a i : Nat} (h : SoC W m fb n pb P clo nup ns nk nc cb cl ccp) (x : Nat) (hx : x < 65536) :
    Calls Tryz.prog 86 #[.pointer (some ⟨m, 0, none⟩), .pointer (some ⟨a, i * 5, none⟩), .pointer (some ⟨fb, n * 5, none⟩), .pointer (some ⟨pb, P * 8, none⟩), .int .u8 24, i64 x] W fun e w' => e = .returned (.bool (decide (x < nc))) ∧ Below W.heap.size W w' := by
  obtain ⟨m6, hc, c9, c2, f0, p1, p5, p7⟩ := h
  by_cases hb : x < nc
  · rw [decide_eq_true hb]
    have hb' : (x : Int) < (nc : Int) := by omega
    go_enter Tryz.func86, Tryz.ntmps86
    go_wp2_with fail
    go_quiet (fail)
    go_wp2_with fail
    refine bodyPost_ret (v := .bool true) (by first | (simp [results, go_sem]; done) | (simp [results, go_sem]; omega)) rfl ?_
    exact ⟨rfl, below_drewN (Below.refl _ _) _⟩
  · rw [decide_eq_false hb]
    have hb' : ¬ (x : Int) < (nc : Int) := by omega
    go_enter Tryz.func86, Tryz.ntmps86
    go_wp2_with fail
    go_quiet (fail)
    go_wp2_with fail
    refine bodyPost_ret (v := .bool false) (by first | (simp [results, go_sem]; done) | (simp [results, go_sem]; omega)) rfl ?_
    exact ⟨rfl, below_drewN (Below.refl _ _) _⟩
set_option maxRecDepth 16000 in
set_option maxHeartbeats 1000000 in
theorem sound_26 {W : World} {m fb n pb P clo nup ns nk nc cb cl ccp a i : Nat} (h : SoC W m fb n pb P clo nup ns nk nc cb cl ccp) (x : Nat) (hx : x < 65536) :
    Calls Tryz.prog 86 #[.pointer (some ⟨m, 0, none⟩), .pointer (some ⟨a, i * 5, none⟩), .pointer (some ⟨fb, n * 5, none⟩), .pointer (some ⟨pb, P * 8, none⟩), .int .u8 26, i64 x] W fun e w' => e = .returned (.bool (decide (x ≤ 3))) ∧ Below W.heap.size W w' := by
  obtain ⟨m6, hc, c9, c2, f0, p1, p5, p7⟩ := h
  by_cases hb : x ≤ 3
  · rw [decide_eq_true hb]
    have hb' : (x : Int) ≤ 3 := by omega
    go_enter Tryz.func86, Tryz.ntmps86
    go_wp2_with fail
    go_quiet (fail)
    go_wp2_with fail
    refine bodyPost_ret (v := .bool true) (by first | (simp [results, go_sem]; done) | (simp [results, go_sem]; omega)) rfl ?_
    exact ⟨rfl, below_drewN (Below.refl _ _) _⟩
  · rw [decide_eq_false hb]
    have hb' : ¬ (x : Int) ≤ 3 := by omega
    go_enter Tryz.func86, Tryz.ntmps86
    go_wp2_with fail
    go_quiet (fail)
    go_wp2_with fail
    refine bodyPost_ret (v := .bool false) (by first | (simp [results, go_sem]; done) | (simp [results, go_sem]; omega)) rfl ?_
    exact ⟨rfl, below_drewN (Below.refl _ _) _⟩
set_option maxRecDepth 16000 in
set_option maxHeartbeats 1000000 in
theorem sound_29 {W : World} {m fb n pb P clo nup ns nk nc cb cl ccp a i : Nat} (h : SoC W m fb n pb P clo nup ns nk nc cb cl ccp) (x : Nat) (hx : x < 65536) :
    Calls Tryz.prog 86 #[.pointer (some ⟨m, 0, none⟩), .pointer (some ⟨a, i * 5, none⟩), .pointer (some ⟨fb, n * 5, none⟩), .pointer (some ⟨pb, P * 8, none⟩), .int .u8 29, i64 x] W fun e w' => e = .returned (.bool (decide (x ≤ ns))) ∧ Below W.heap.size W w' := by
  obtain ⟨m6, hc, c9, c2, f0, p1, p5, p7⟩ := h
  by_cases hb : x ≤ ns
  · rw [decide_eq_true hb]
    have hb' : (x : Int) ≤ (ns : Int) := by omega
    go_enter Tryz.func86, Tryz.ntmps86
    go_wp2_with fail
    go_quiet (fail)
    go_wp2_with fail
    refine bodyPost_ret (v := .bool true) (by first | (simp [results, go_sem]; done) | (simp [results, go_sem]; omega)) rfl ?_
    exact ⟨rfl, below_drewN (Below.refl _ _) _⟩
  · rw [decide_eq_false hb]
    have hb' : ¬ (x : Int) ≤ (ns : Int) := by omega
    go_enter Tryz.func86, Tryz.ntmps86
    go_wp2_with fail
    go_quiet (fail)
    go_wp2_with fail
    refine bodyPost_ret (v := .bool false) (by first | (simp [results, go_sem]; done) | (simp [results, go_sem]; omega)) rfl ?_
    exact ⟨rfl, below_drewN (Below.refl _ _) _⟩
set_option maxRecDepth 16000 in
set_option maxHeartbeats 1000000 in
theorem sound_30 {W : World} {m fb n pb P clo nup ns nk nc cb cl ccp a i : Nat} (h : SoC W m fb n pb P clo nup ns nk nc cb cl ccp) (x : Nat) (hx : x < 65536) :
    Calls Tryz.prog 86 #[.pointer (some ⟨m, 0, none⟩), .pointer (some ⟨a, i * 5, none⟩), .pointer (some ⟨fb, n * 5, none⟩), .pointer (some ⟨pb, P * 8, none⟩), .int .u8 30, i64 x] W fun e w' => e = .returned (.bool (decide (x + 3 < ns))) ∧ Below W.heap.size W w' := by
  obtain ⟨m6, hc, c9, c2, f0, p1, p5, p7⟩ := h
  by_cases hb : x + 3 < ns
  · rw [decide_eq_true hb]
    have hb' : (x : Int) + 3 < (ns : Int) := by omega
    go_enter Tryz.func86, Tryz.ntmps86
    go_wp2_with fail
    go_quiet (fail)
    go_wp2_with fail
    refine bodyPost_ret (v := .bool true) (by first | (simp [results, go_sem]; done) | (simp [results, go_sem]; omega)) rfl ?_
    exact ⟨rfl, below_drewN (Below.refl _ _) _⟩
  · rw [decide_eq_false hb]
    have hb' : ¬ (x : Int) + 3 < (ns : Int) := by omega
    go_enter Tryz.func86, Tryz.ntmps86
    go_wp2_with fail
    go_quiet (fail)
    go_wp2_with fail
    refine bodyPost_ret (v := .bool false) (by first | (simp [results, go_sem]; done) | (simp [results, go_sem]; omega)) rfl ?_
    exact ⟨rfl, below_drewN (Below.refl _ _) _⟩
set_option maxRecDepth 16000 in
set_option maxHeartbeats 1000000 in
theorem sound_32 {W : World} {m fb n pb P clo nup ns nk nc cb cl ccp a i : Nat} (h : SoC W m fb n pb P clo nup ns nk nc cb cl ccp) (x : Nat) (hx : x < 65536) :
    Calls Tryz.prog 86 #[.pointer (some ⟨m, 0, none⟩), .pointer (some ⟨a, i * 5, none⟩), .pointer (some ⟨fb, n * 5, none⟩), .pointer (some ⟨pb, P * 8, none⟩), .int .u8 32, i64 x] W fun e w' => e = .returned (.bool (decide (x + 3 < ns))) ∧ Below W.heap.size W w' := by
  obtain ⟨m6, hc, c9, c2, f0, p1, p5, p7⟩ := h
  by_cases hb : x + 3 < ns
  · rw [decide_eq_true hb]
    have hb' : (x : Int) + 3 < (ns : Int) := by omega
    go_enter Tryz.func86, Tryz.ntmps86
    go_wp2_with fail
    go_quiet (fail)
    go_wp2_with fail
    refine bodyPost_ret (v := .bool true) (by first | (simp [results, go_sem]; done) | (simp [results, go_sem]; omega)) rfl ?_
    exact ⟨rfl, below_drewN (Below.refl _ _) _⟩
  · rw [decide_eq_false hb]
    have hb' : ¬ (x : Int) + 3 < (ns : Int) := by omega
    go_enter Tryz.func86, Tryz.ntmps86
    go_wp2_with fail
    go_quiet (fail)
    go_wp2_with fail
    refine bodyPost_ret (v := .bool false) (by first | (simp [results, go_sem]; done) | (simp [results, go_sem]; omega)) rfl ?_
    exact ⟨rfl, below_drewN (Below.refl _ _) _⟩
set_option maxRecDepth 16000 in
set_option maxHeartbeats 1000000 in
theorem sound_15 {W : World} {m fb n pb P clo nup ns nk nc cb cl ccp a i : Nat} (h : SoC W m fb n pb P clo nup ns nk nc cb cl ccp) (x : Nat) (hx : x < 65536) :
    Calls Tryz.prog 86 #[.pointer (some ⟨m, 0, none⟩), .pointer (some ⟨a, i * 5, none⟩), .pointer (some ⟨fb, n * 5, none⟩), .pointer (some ⟨pb, P * 8, none⟩), .int .u8 15, i64 x] W fun e w' => e = .returned (.bool (decide (1 ≤ x) && decide (x ≤ 6))) ∧ Below W.heap.size W w' := by
  obtain ⟨m6, hc, c9, c2, f0, p1, p5, p7⟩ := h
  by_cases hb : 1 ≤ x
  · rw [decide_eq_true hb, Bool.true_and]
    have hb' : (1 : Int) ≤ (x : Int) := by omega
    by_cases hd : x ≤ 6
    · rw [decide_eq_true hd]
      have hd' : (x : Int) ≤ 6 := by omega
      go_enter Tryz.func86, Tryz.ntmps86
      go_wp2_with fail
      go_quiet (fail)
      go_wp2_with fail
      refine bodyPost_ret (v := .bool true) (by first | (simp [results, go_sem]; done) | (simp [results, go_sem]; omega)) rfl ?_
      exact ⟨rfl, below_drewN (Below.refl _ _) _⟩
    · rw [decide_eq_false hd]
      have hd' : ¬ (x : Int) ≤ 6 := by omega
      go_enter Tryz.func86, Tryz.ntmps86
      go_wp2_with fail
      go_quiet (fail)
      go_wp2_with fail
      refine bodyPost_ret (v := .bool false) (by first | (simp [results, go_sem]; done) | (simp [results, go_sem]; omega)) rfl ?_
      exact ⟨rfl, below_drewN (Below.refl _ _) _⟩
  · rw [decide_eq_false hb, Bool.false_and]
    have hb' : ¬ (1 : Int) ≤ (x : Int) := by omega
    go_enter Tryz.func86, Tryz.ntmps86
    go_wp2_with fail
    go_quiet (fail)
    go_wp2_with fail
    refine bodyPost_ret (v := .bool false) (by first | (simp [results, go_sem]; done) | (simp [results, go_sem]; omega)) rfl ?_
    exact ⟨rfl, below_drewN (Below.refl _ _) _⟩
set_option maxRecDepth 16000 in
set_option maxHeartbeats 1000000 in
theorem sound_16 {W : World} {m fb n pb P clo nup ns nk nc cb cl ccp a i : Nat} (h : SoC W m fb n pb P clo nup ns nk nc cb cl ccp) (x : Nat) (hx : x < 65536) :
    Calls Tryz.prog 86 #[.pointer (some ⟨m, 0, none⟩), .pointer (some ⟨a, i * 5, none⟩), .pointer (some ⟨fb, n * 5, none⟩), .pointer (some ⟨pb, P * 8, none⟩), .int .u8 16, i64 x] W fun e w' => e = .returned (.bool (decide (1 ≤ x) && decide (x ≤ 6))) ∧ Below W.heap.size W w' := by
  obtain ⟨m6, hc, c9, c2, f0, p1, p5, p7⟩ := h
  by_cases hb : 1 ≤ x
  · rw [decide_eq_true hb, Bool.true_and]
    have hb' : (1 : Int) ≤ (x : Int) := by omega
    by_cases hd : x ≤ 6
    · rw [decide_eq_true hd]
      have hd' : (x : Int) ≤ 6 := by omega
      go_enter Tryz.func86, Tryz.ntmps86
      go_wp2_with fail
      go_quiet (fail)
      go_wp2_with fail
      refine bodyPost_ret (v := .bool true) (by first | (simp [results, go_sem]; done) | (simp [results, go_sem]; omega)) rfl ?_
      exact ⟨rfl, below_drewN (Below.refl _ _) _⟩
    · rw [decide_eq_false hd]
      have hd' : ¬ (x : Int) ≤ 6 := by omega
      go_enter Tryz.func86, Tryz.ntmps86
      go_wp2_with fail
      go_quiet (fail)
      go_wp2_with fail
      refine bodyPost_ret (v := .bool false) (by first | (simp [results, go_sem]; done) | (simp [results, go_sem]; omega)) rfl ?_
      exact ⟨rfl, below_drewN (Below.refl _ _) _⟩
  · rw [decide_eq_false hb, Bool.false_and]
    have hb' : ¬ (1 : Int) ≤ (x : Int) := by omega
    go_enter Tryz.func86, Tryz.ntmps86
    go_wp2_with fail
    go_quiet (fail)
    go_wp2_with fail
    refine bodyPost_ret (v := .bool false) (by first | (simp [results, go_sem]; done) | (simp [results, go_sem]; omega)) rfl ?_
    exact ⟨rfl, below_drewN (Below.refl _ _) _⟩
set_option maxRecDepth 16000 in
set_option maxHeartbeats 1000000 in
theorem sound_2 {W : World} {m fb n pb P clo nup ns nk nc cb cl ccp a i : Nat} (h : SoC W m fb n pb P clo nup ns nk nc cb cl ccp) (x : Nat) (hx : x < 65536) :
    Calls Tryz.prog 86 #[.pointer (some ⟨m, 0, none⟩), .pointer (some ⟨a, i * 5, none⟩), .pointer (some ⟨fb, n * 5, none⟩), .pointer (some ⟨pb, P * 8, none⟩), .int .u8 2, i64 x] W fun e w' => e = .returned (.bool true) ∧ Below W.heap.size W w' := by
  obtain ⟨m6, hc, c9, c2, f0, p1, p5, p7⟩ := h
  go_enter Tryz.func86, Tryz.ntmps86
  go_wp2_with fail
  go_quiet (fail)
  go_wp2_with fail
  refine bodyPost_ret (v := .bool true) (by first | (simp [results, go_sem]; done) | (simp [results, go_sem]; omega)) rfl ?_
  exact ⟨rfl, below_drewN (Below.refl _ _) _⟩
set_option maxRecDepth 16000 in
set_option maxHeartbeats 1000000 in
theorem sound_3 {W : World} {m fb n pb P clo nup ns nk nc cb cl ccp a i : Nat} (h : SoC W m fb n pb P clo nup ns nk nc cb cl ccp) (x : Nat) (hx : x < 65536) :
    Calls Tryz.prog 86 #[.pointer (some ⟨m, 0, none⟩), .pointer (some ⟨a, i * 5, none⟩), .pointer (some ⟨fb, n * 5, none⟩), .pointer (some ⟨pb, P * 8, none⟩), .int .u8 3, i64 x] W fun e w' => e = .returned (.bool true) ∧ Below W.heap.size W w' := by
  obtain ⟨m6, hc, c9, c2, f0, p1, p5, p7⟩ := h
  go_enter Tryz.func86, Tryz.ntmps86
  go_wp2_with fail
  go_quiet (fail)
  go_wp2_with fail
  refine bodyPost_ret (v := .bool true) (by first | (simp [results, go_sem]; done) | (simp [results, go_sem]; omega)) rfl ?_
  exact ⟨rfl, below_drewN (Below.refl _ _) _⟩
set_option maxRecDepth 16000 in
set_option maxHeartbeats 1000000 in
theorem sound_4 {W : World} {m fb n pb P clo nup ns nk nc cb cl ccp a i : Nat} (h : SoC W m fb n pb P clo nup ns nk nc cb cl ccp) (x : Nat) (hx : x < 65536) :
    Calls Tryz.prog 86 #[.pointer (some ⟨m, 0, none⟩), .pointer (some ⟨a, i * 5, none⟩), .pointer (some ⟨fb, n * 5, none⟩), .pointer (some ⟨pb, P * 8, none⟩), .int .u8 4, i64 x] W fun e w' => e = .returned (.bool true) ∧ Below W.heap.size W w' := by
  obtain ⟨m6, hc, c9, c2, f0, p1, p5, p7⟩ := h
  go_enter Tryz.func86, Tryz.ntmps86
  go_wp2_with fail
  go_quiet (fail)
  go_wp2_with fail
  refine bodyPost_ret (v := .bool true) (by first | (simp [results, go_sem]; done) | (simp [results, go_sem]; omega)) rfl ?_
  exact ⟨rfl, below_drewN (Below.refl _ _) _⟩
set_option maxRecDepth 16000 in
set_option maxHeartbeats 1000000 in
theorem sound_11 {W : World} {m fb n pb P clo nup ns nk nc cb cl ccp a i : Nat} (h : SoC W m fb n pb P clo nup ns nk nc cb cl ccp) (x : Nat) (hx : x < 65536) :
    Calls Tryz.prog 86 #[.pointer (some ⟨m, 0, none⟩), .pointer (some ⟨a, i * 5, none⟩), .pointer (some ⟨fb, n * 5, none⟩), .pointer (some ⟨pb, P * 8, none⟩), .int .u8 11, i64 x] W fun e w' => e = .returned (.bool true) ∧ Below W.heap.size W w' := by
  obtain ⟨m6, hc, c9, c2, f0, p1, p5, p7⟩ := h
  go_enter Tryz.func86, Tryz.ntmps86
  go_wp2_with fail
  go_quiet (fail)
  go_wp2_with fail
  refine bodyPost_ret (v := .bool true) (by first | (simp [results, go_sem]; done) | (simp [results, go_sem]; omega)) rfl ?_
  exact ⟨rfl, below_drewN (Below.refl _ _) _⟩
set_option maxRecDepth 16000 in
set_option maxHeartbeats 1000000 in
theorem sound_12 {W : World} {m fb n pb P clo nup ns nk nc cb cl ccp a i : Nat} (h : SoC W m fb n pb P clo nup ns nk nc cb cl ccp) (x : Nat) (hx : x < 65536) :
    Calls Tryz.prog 86 #[.pointer (some ⟨m, 0, none⟩), .pointer (some ⟨a, i * 5, none⟩), .pointer (some ⟨fb, n * 5, none⟩), .pointer (some ⟨pb, P * 8, none⟩), .int .u8 12, i64 x] W fun e w' => e = .returned (.bool true) ∧ Below W.heap.size W w' := by
  obtain ⟨m6, hc, c9, c2, f0, p1, p5, p7⟩ := h
  go_enter Tryz.func86, Tryz.ntmps86
  go_wp2_with fail
  go_quiet (fail)
  go_wp2_with fail
  refine bodyPost_ret (v := .bool true) (by first | (simp [results, go_sem]; done) | (simp [results, go_sem]; omega)) rfl ?_
  exact ⟨rfl, below_drewN (Below.refl _ _) _⟩
set_option maxRecDepth 16000 in
set_option maxHeartbeats 1000000 in
theorem sound_13 {W : World} {m fb n pb P clo nup ns nk nc cb cl ccp a i : Nat} (h : SoC W m fb n pb P clo nup ns nk nc cb cl ccp) (x : Nat) (hx : x < 65536) :
    Calls Tryz.prog 86 #[.pointer (some ⟨m, 0, none⟩), .pointer (some ⟨a, i * 5, none⟩), .pointer (some ⟨fb, n * 5, none⟩), .pointer (some ⟨pb, P * 8, none⟩), .int .u8 13, i64 x] W fun e w' => e = .returned (.bool true) ∧ Below W.heap.size W w' := by
  obtain ⟨m6, hc, c9, c2, f0, p1, p5, p7⟩ := h
  go_enter Tryz.func86, Tryz.ntmps86
  go_wp2_with fail
  go_quiet (fail)
  go_wp2_with fail
  refine bodyPost_ret (v := .bool true) (by first | (simp [results, go_sem]; done) | (simp [results, go_sem]; omega)) rfl ?_
  exact ⟨rfl, below_drewN (Below.refl _ _) _⟩
set_option maxRecDepth 16000 in
set_option maxHeartbeats 1000000 in
theorem sound_14 {W : World} {m fb n pb P clo nup ns nk nc cb cl ccp a i : Nat} (h : SoC W m fb n pb P clo nup ns nk nc cb cl ccp) (x : Nat) (hx : x < 65536) :
    Calls Tryz.prog 86 #[.pointer (some ⟨m, 0, none⟩), .pointer (some ⟨a, i * 5, none⟩), .pointer (some ⟨fb, n * 5, none⟩), .pointer (some ⟨pb, P * 8, none⟩), .int .u8 14, i64 x] W fun e w' => e = .returned (.bool true) ∧ Below W.heap.size W w' := by
  obtain ⟨m6, hc, c9, c2, f0, p1, p5, p7⟩ := h
  go_enter Tryz.func86, Tryz.ntmps86
  go_wp2_with fail
  go_quiet (fail)
  go_wp2_with fail
  refine bodyPost_ret (v := .bool true) (by first | (simp [results, go_sem]; done) | (simp [results, go_sem]; omega)) rfl ?_
  exact ⟨rfl, below_drewN (Below.refl _ _) _⟩
set_option maxRecDepth 16000 in
set_option maxHeartbeats 1000000 in
theorem sound_17 {W : World} {m fb n pb P clo nup ns nk nc cb cl ccp a i : Nat} (h : SoC W m fb n pb P clo nup ns nk nc cb cl ccp) (x : Nat) (hx : x < 65536) :
    Calls Tryz.prog 86 #[.pointer (some ⟨m, 0, none⟩), .pointer (some ⟨a, i * 5, none⟩), .pointer (some ⟨fb, n * 5, none⟩), .pointer (some ⟨pb, P * 8, none⟩), .int .u8 17, i64 x] W fun e w' => e = .returned (.bool true) ∧ Below W.heap.size W w' := by
  obtain ⟨m6, hc, c9, c2, f0, p1, p5, p7⟩ := h
  go_enter Tryz.func86, Tryz.ntmps86
  go_wp2_with fail
  go_quiet (fail)
  go_wp2_with fail
  refine bodyPost_ret (v := .bool true) (by first | (simp [results, go_sem]; done) | (simp [results, go_sem]; omega)) rfl ?_
  exact ⟨rfl, below_drewN (Below.refl _ _) _⟩
set_option maxRecDepth 16000 in
set_option maxHeartbeats 1000000 in
theorem sound_18 {W : World} {m fb n pb P clo nup ns nk nc cb cl ccp a i : Nat} (h : SoC W m fb n pb P clo nup ns nk nc cb cl ccp) (x : Nat) (hx : x < 65536) :
    Calls Tryz.prog 86 #[.pointer (some ⟨m, 0, none⟩), .pointer (some ⟨a, i * 5, none⟩), .pointer (some ⟨fb, n * 5, none⟩), .pointer (some ⟨pb, P * 8, none⟩), .int .u8 18, i64 x] W fun e w' => e = .returned (.bool true) ∧ Below W.heap.size W w' := by
  obtain ⟨m6, hc, c9, c2, f0, p1, p5, p7⟩ := h
  go_enter Tryz.func86, Tryz.ntmps86
  go_wp2_with fail
  go_quiet (fail)
  go_wp2_with fail
  refine bodyPost_ret (v := .bool true) (by first | (simp [results, go_sem]; done) | (simp [results, go_sem]; omega)) rfl ?_
  exact ⟨rfl, below_drewN (Below.refl _ _) _⟩
set_option maxRecDepth 16000 in
set_option maxHeartbeats 1000000 in
theorem sound_19 {W : World} {m fb n pb P clo nup ns nk nc cb cl ccp a i : Nat} (h : SoC W m fb n pb P clo nup ns nk nc cb cl ccp) (x : Nat) (hx : x < 65536) :
    Calls Tryz.prog 86 #[.pointer (some ⟨m, 0, none⟩), .pointer (some ⟨a, i * 5, none⟩), .pointer (some ⟨fb, n * 5, none⟩), .pointer (some ⟨pb, P * 8, none⟩), .int .u8 19, i64 x] W fun e w' => e = .returned (.bool true) ∧ Below W.heap.size W w' := by
  obtain ⟨m6, hc, c9, c2, f0, p1, p5, p7⟩ := h
  go_enter Tryz.func86, Tryz.ntmps86
  go_wp2_with fail
  go_quiet (fail)
  go_wp2_with fail
  refine bodyPost_ret (v := .bool true) (by first | (simp [results, go_sem]; done) | (simp [results, go_sem]; omega)) rfl ?_
  exact ⟨rfl, below_drewN (Below.refl _ _) _⟩
set_option maxRecDepth 16000 in
set_option maxHeartbeats 1000000 in
theorem sound_20 {W : World} {m fb n pb P clo nup ns nk nc cb cl ccp a i : Nat} (h : SoC W m fb n pb P clo nup ns nk nc cb cl ccp) (x : Nat) (hx : x < 65536) :
    Calls Tryz.prog 86 #[.pointer (some ⟨m, 0, none⟩), .pointer (some ⟨a, i * 5, none⟩), .pointer (some ⟨fb, n * 5, none⟩), .pointer (some ⟨pb, P * 8, none⟩), .int .u8 20, i64 x] W fun e w' => e = .returned (.bool true) ∧ Below W.heap.size W w' := by
  obtain ⟨m6, hc, c9, c2, f0, p1, p5, p7⟩ := h
  go_enter Tryz.func86, Tryz.ntmps86
  go_wp2_with fail
  go_quiet (fail)
  go_wp2_with fail
  refine bodyPost_ret (v := .bool true) (by first | (simp [results, go_sem]; done) | (simp [results, go_sem]; omega)) rfl ?_
  exact ⟨rfl, below_drewN (Below.refl _ _) _⟩
set_option maxRecDepth 16000 in
set_option maxHeartbeats 1000000 in
theorem sound_25 {W : World} {m fb n pb P clo nup ns nk nc cb cl ccp a i : Nat} (h : SoC W m fb n pb P clo nup ns nk nc cb cl ccp) (x : Nat) (hx : x < 65536) :
    Calls Tryz.prog 86 #[.pointer (some ⟨m, 0, none⟩), .pointer (some ⟨a, i * 5, none⟩), .pointer (some ⟨fb, n * 5, none⟩), .pointer (some ⟨pb, P * 8, none⟩), .int .u8 25, i64 x] W fun e w' => e = .returned (.bool true) ∧ Below W.heap.size W w' := by
  obtain ⟨m6, hc, c9, c2, f0, p1, p5, p7⟩ := h
  go_enter Tryz.func86, Tryz.ntmps86
  go_wp2_with fail
  go_quiet (fail)
  go_wp2_with fail
  refine bodyPost_ret (v := .bool true) (by first | (simp [results, go_sem]; done) | (simp [results, go_sem]; omega)) rfl ?_
  exact ⟨rfl, below_drewN (Below.refl _ _) _⟩
set_option maxRecDepth 16000 in
set_option maxHeartbeats 1000000 in
theorem sound_27 {W : World} {m fb n pb P clo nup ns nk nc cb cl ccp a i : Nat} (h : SoC W m fb n pb P clo nup ns nk nc cb cl ccp) (x : Nat) (hx : x < 65536) :
    Calls Tryz.prog 86 #[.pointer (some ⟨m, 0, none⟩), .pointer (some ⟨a, i * 5, none⟩), .pointer (some ⟨fb, n * 5, none⟩), .pointer (some ⟨pb, P * 8, none⟩), .int .u8 27, i64 x] W fun e w' => e = .returned (.bool true) ∧ Below W.heap.size W w' := by
  obtain ⟨m6, hc, c9, c2, f0, p1, p5, p7⟩ := h
  go_enter Tryz.func86, Tryz.ntmps86
  go_wp2_with fail
  go_quiet (fail)
  go_wp2_with fail
  refine bodyPost_ret (v := .bool true) (by first | (simp [results, go_sem]; done) | (simp [results, go_sem]; omega)) rfl ?_
  exact ⟨rfl, below_drewN (Below.refl _ _) _⟩
set_option maxRecDepth 16000 in
set_option maxHeartbeats 1000000 in
theorem sound_0 {W : World} {m fb n pb P clo nup ns nk nc cb cl ccp a i : Nat} (h : SoC W m fb n pb P clo nup ns nk nc cb cl ccp) (x : Nat) (hx : x < 65536) :
    Calls Tryz.prog 86 #[.pointer (some ⟨m, 0, none⟩), .pointer (some ⟨a, i * 5, none⟩), .pointer (some ⟨fb, n * 5, none⟩), .pointer (some ⟨pb, P * 8, none⟩), .int .u8 0, i64 x] W fun e w' => e = .returned (.bool false) ∧ Below W.heap.size W w' := by
  obtain ⟨m6, hc, c9, c2, f0, p1, p5, p7⟩ := h
  go_enter Tryz.func86, Tryz.ntmps86
  go_wp2_with fail
  go_quiet (fail)
  go_wp2_with fail
  refine bodyPost_ret (v := .bool false) (by first | (simp [results, go_sem]; done) | (simp [results, go_sem]; omega)) rfl ?_
  exact ⟨rfl, below_drewN (Below.refl _ _) _⟩
set_option maxRecDepth 16000 in
set_option maxHeartbeats 1000000 in
theorem sound_up {W : World} {m fb n pb P clo nup ns nk nc cb cl ccp a i : Nat} (h : SoC W m fb n pb P clo nup ns nk nc cb cl ccp) (x : Nat) (hx : x < 65536) (op : Nat) (h32 : 32 < op) (h8 : op < 256) :
    Calls Tryz.prog 86 #[.pointer (some ⟨m, 0, none⟩), .pointer (some ⟨a, i * 5, none⟩), .pointer (some ⟨fb, n * 5, none⟩), .pointer (some ⟨pb, P * 8, none⟩), .int .u8 (op : Int), i64 x] W fun e w' => e = .returned (.bool false) ∧ Below W.heap.size W w' := by
  obtain ⟨m6, hc, c9, c2, f0, p1, p5, p7⟩ := h
  have e1 : ¬ (op : Int) = 1 := by omega
  have e5 : ¬ (op : Int) = 5 := by omega
  have e6 : ¬ (op : Int) = 6 := by omega
  have e7 : ¬ (op : Int) = 7 := by omega
  have e8 : ¬ (op : Int) = 8 := by omega
  have e9 : ¬ (op : Int) = 9 := by omega
  have e10 : ¬ (op : Int) = 10 := by omega
  have e15 : ¬ (op : Int) = 15 := by omega
  have e16 : ¬ (op : Int) = 16 := by omega
  have e21 : ¬ (op : Int) = 21 := by omega
  have e22 : ¬ (op : Int) = 22 := by omega
  have e23 : ¬ (op : Int) = 23 := by omega
  have e24 : ¬ (op : Int) = 24 := by omega
  have e26 : ¬ (op : Int) = 26 := by omega
  have e28 : ¬ (op : Int) = 28 := by omega
  have e29 : ¬ (op : Int) = 29 := by omega
  have e30 : ¬ (op : Int) = 30 := by omega
  have e31 : ¬ (op : Int) = 31 := by omega
  have e32 : ¬ (op : Int) = 32 := by omega
  have l1 : (1 : Int) ≤ (op : Int) := by omega
  have l2 : ¬ (op : Int) ≤ 32 := by omega
  go_enter Tryz.func86, Tryz.ntmps86
  go_wp2_with fail
  go_quiet (fail)
  go_wp2_with fail
  refine bodyPost_ret (v := .bool false) (by first | (simp [results, go_sem]; done) | (simp [results, go_sem]; omega)) rfl ?_
  exact ⟨rfl, below_drewN (Below.refl _ _) _⟩
end Go.Proofs.Qxb6500293aGreatRR
