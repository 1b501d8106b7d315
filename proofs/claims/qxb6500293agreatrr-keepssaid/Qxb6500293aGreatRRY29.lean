/-
  sound walked: the globals' instructions, IFORTEST.
-/
import Derived.Test.Qxb6500293aGreatRRY28
namespace Go.Proofs.Qxb6500293aGreatRR
open Go.RowKit
open Ieee (double)
set_option linter.unusedVariables false
set_option linter.unusedSimpArgs false

set_option maxRecDepth 16000 in
set_option maxHeartbeats 1000000 in
theorem sound_9 {W : World} {m fb n pb P clo nup ns nk nc cb cl ccp a i kk kl kcp kb : Nat} {kT : Int} (h : SoC W m fb n pb P clo nup ns nk nc cb cl ccp) (x : Nat) (hx : x < 65536) (p4 : W.cell? ⟨pb, P * 8 + 4, none⟩ = some (i64 kk)) (hk9 : kk ≤ 40000) (hkl : x < nk → W.cell? ⟨m, 4, none⟩ = some (.slice (some ⟨kb, 0, none⟩) kl kcp) ∧ kk + x < kl ∧ W.cell? ⟨kb, (kk + x) * 3, none⟩ = some (.int .i64 kT)) :
    Calls Tryz.prog 86 #[.pointer (some ⟨m, 0, none⟩), .pointer (some ⟨a, i * 5, none⟩), .pointer (some ⟨fb, n * 5, none⟩), .pointer (some ⟨pb, P * 8, none⟩), .int .u8 9, i64 x] W fun e w' => e = .returned (.bool (decide (x < nk) && decide (kT = 3))) ∧ Below W.heap.size W w' := by
  obtain ⟨m6, hc, c9, c2, f0, p1, p5, p7⟩ := h
  by_cases hb : x < nk
  · rw [decide_eq_true hb, Bool.true_and]
    obtain ⟨k1, k2, k3⟩ := hkl hb
    have hb' : (x : Int) < (nk : Int) := by omega
    have hwk : IntKind.i64.wrap ((kk : Int) + (x : Int)) = ((kk + x : Nat) : Int) := by rw [IntWalk.i64_in _ ⟨by omega, by omega⟩, Int.natCast_add]
    have hbd1 : (0 : Int) ≤ (kk : Int) + (x : Int) := by omega
    have hbd2 : (kk : Int) + (x : Int) < (kl : Int) := by omega
    have hbd3 : ((kk : Int) + (x : Int)).toNat = kk + x := by omega
    clear hkl
    by_cases h3 : kT = 3
    · rw [decide_eq_true h3]
      subst h3
      go_enter Tryz.func86, Tryz.ntmps86
      go_wp2_with fail
      go_quiet (fail)
      revert nq; intro nq1
      go_wp2_with fail
      go_quiet (fail)
      go_wp2_with fail
      refine bodyPost_ret (v := .bool true) (by first | (simp [results, go_sem]; done) | (simp [results, go_sem]; omega)) rfl ?_
      exact ⟨rfl, below_two (below_drewN (Below.refl _ _) _) (below_drewN (Below.refl _ _) _)⟩
    · rw [decide_eq_false h3]
      go_enter Tryz.func86, Tryz.ntmps86
      go_wp2_with fail
      go_quiet (fail)
      revert nq; intro nq1
      go_wp2_with fail
      go_quiet (fail)
      go_wp2_with fail
      refine bodyPost_ret (v := .bool false) (by first | (simp [results, go_sem]; done) | (simp [results, go_sem]; omega)) rfl ?_
      exact ⟨rfl, below_two (below_drewN (Below.refl _ _) _) (below_drewN (Below.refl _ _) _)⟩
  · rw [decide_eq_false hb, Bool.false_and]
    have hb' : ¬ (x : Int) < (nk : Int) := by omega
    clear hkl
    go_enter Tryz.func86, Tryz.ntmps86
    go_wp2_with fail
    go_quiet (fail)
    revert nq; intro nq1
    go_wp2_with fail
    go_quiet (fail)
    go_wp2_with fail
    refine bodyPost_ret (v := .bool false) (by first | (simp [results, go_sem]; done) | (simp [results, go_sem]; omega)) rfl ?_
    exact ⟨rfl, below_two (below_drewN (Below.refl _ _) _) (below_drewN (Below.refl _ _) _)⟩
set_option maxRecDepth 16000 in
set_option maxHeartbeats 1000000 in
theorem sound_10 {W : World} {m fb n pb P clo nup ns nk nc cb cl ccp a i kk kl kcp kb : Nat} {kT : Int} (h : SoC W m fb n pb P clo nup ns nk nc cb cl ccp) (x : Nat) (hx : x < 65536) (p4 : W.cell? ⟨pb, P * 8 + 4, none⟩ = some (i64 kk)) (hk9 : kk ≤ 40000) (hkl : x < nk → W.cell? ⟨m, 4, none⟩ = some (.slice (some ⟨kb, 0, none⟩) kl kcp) ∧ kk + x < kl ∧ W.cell? ⟨kb, (kk + x) * 3, none⟩ = some (.int .i64 kT)) :
    Calls Tryz.prog 86 #[.pointer (some ⟨m, 0, none⟩), .pointer (some ⟨a, i * 5, none⟩), .pointer (some ⟨fb, n * 5, none⟩), .pointer (some ⟨pb, P * 8, none⟩), .int .u8 10, i64 x] W fun e w' => e = .returned (.bool (decide (x < nk) && decide (kT = 3))) ∧ Below W.heap.size W w' := by
  obtain ⟨m6, hc, c9, c2, f0, p1, p5, p7⟩ := h
  by_cases hb : x < nk
  · rw [decide_eq_true hb, Bool.true_and]
    obtain ⟨k1, k2, k3⟩ := hkl hb
    have hb' : (x : Int) < (nk : Int) := by omega
    have hwk : IntKind.i64.wrap ((kk : Int) + (x : Int)) = ((kk + x : Nat) : Int) := by rw [IntWalk.i64_in _ ⟨by omega, by omega⟩, Int.natCast_add]
    have hbd1 : (0 : Int) ≤ (kk : Int) + (x : Int) := by omega
    have hbd2 : (kk : Int) + (x : Int) < (kl : Int) := by omega
    have hbd3 : ((kk : Int) + (x : Int)).toNat = kk + x := by omega
    clear hkl
    by_cases h3 : kT = 3
    · rw [decide_eq_true h3]
      subst h3
      go_enter Tryz.func86, Tryz.ntmps86
      go_wp2_with fail
      go_quiet (fail)
      revert nq; intro nq1
      go_wp2_with fail
      go_quiet (fail)
      go_wp2_with fail
      refine bodyPost_ret (v := .bool true) (by first | (simp [results, go_sem]; done) | (simp [results, go_sem]; omega)) rfl ?_
      exact ⟨rfl, below_two (below_drewN (Below.refl _ _) _) (below_drewN (Below.refl _ _) _)⟩
    · rw [decide_eq_false h3]
      go_enter Tryz.func86, Tryz.ntmps86
      go_wp2_with fail
      go_quiet (fail)
      revert nq; intro nq1
      go_wp2_with fail
      go_quiet (fail)
      go_wp2_with fail
      refine bodyPost_ret (v := .bool false) (by first | (simp [results, go_sem]; done) | (simp [results, go_sem]; omega)) rfl ?_
      exact ⟨rfl, below_two (below_drewN (Below.refl _ _) _) (below_drewN (Below.refl _ _) _)⟩
  · rw [decide_eq_false hb, Bool.false_and]
    have hb' : ¬ (x : Int) < (nk : Int) := by omega
    clear hkl
    go_enter Tryz.func86, Tryz.ntmps86
    go_wp2_with fail
    go_quiet (fail)
    revert nq; intro nq1
    go_wp2_with fail
    go_quiet (fail)
    go_wp2_with fail
    refine bodyPost_ret (v := .bool false) (by first | (simp [results, go_sem]; done) | (simp [results, go_sem]; omega)) rfl ?_
    exact ⟨rfl, below_two (below_drewN (Below.refl _ _) _) (below_drewN (Below.refl _ _) _)⟩
set_option maxRecDepth 16000 in
set_option maxHeartbeats 1000000 in
theorem sound_31 {W : World} {m fb n pb P clo nup ns nk nc cb cl ccp a i sb sl scp base : Nat} {T0 T1 T2 : Int} (h : SoC W m fb n pb P clo nup ns nk nc cb cl ccp) (x : Nat) (hx : x < 65536) (s1 : x + 3 < ns → W.cell? ⟨a, i * 5 + 2, none⟩ = some (.slice (some ⟨sb, 0, none⟩) sl scp) ∧ sl ≤ scp ∧ base + x + 3 < sl ∧ sl ≤ 10000 ∧ W.cell? ⟨fb, n * 5 + 2, none⟩ = some (i64 base) ∧ W.cell? ⟨sb, (base + x) * 3, none⟩ = some (.int .i64 T0) ∧ W.cell? ⟨sb, (base + x) * 3 + 3, none⟩ = some (.int .i64 T1) ∧ W.cell? ⟨sb, (base + x) * 3 + 6, none⟩ = some (.int .i64 T2)) :
    Calls Tryz.prog 86 #[.pointer (some ⟨m, 0, none⟩), .pointer (some ⟨a, i * 5, none⟩), .pointer (some ⟨fb, n * 5, none⟩), .pointer (some ⟨pb, P * 8, none⟩), .int .u8 31, i64 x] W fun e w' => e = .returned (.bool (decide (x + 3 < ns) && (decide (T0 = 2) && (decide (T1 = 2) && decide (T2 = 2))))) ∧ Below W.heap.size W w' := by
  obtain ⟨m6, hc, c9, c2, f0, p1, p5, p7⟩ := h
  by_cases hb : x + 3 < ns
  · rw [decide_eq_true hb, Bool.true_and]
    obtain ⟨k1, k2, k3, k4, k5, k6, k7, k8⟩ := s1 hb
    have hb' : ¬ (ns : Int) ≤ (x : Int) + 3 := by omega
    clear s1
    have hne : ¬ scp = base + x := by omega
    by_cases h0 : T0 = 2
    · rw [decide_eq_true h0, Bool.true_and]
      subst h0
      by_cases h1 : T1 = 2
      · rw [decide_eq_true h1, Bool.true_and]
        subst h1
        by_cases h2 : T2 = 2
        · rw [decide_eq_true h2]
          subst h2
          go_enter Tryz.func86, Tryz.ntmps86
          go_wp2_with fail
          go_quiet (fail)
          revert nq; intro nq1
          go_wp2_with fail
          go_quiet (fail)
          rw [Nat.add_sub_cancel_left]
          go_wp2_with fail
          refine bodyPost_ret (v := .bool true) (by first | (simp [results, go_sem]; done) | (simp [results, go_sem]; omega)) rfl ?_
          exact ⟨rfl, below_drewN (Below.refl _ _) _⟩
        · rw [decide_eq_false h2]
          go_enter Tryz.func86, Tryz.ntmps86
          go_wp2_with fail
          go_quiet (fail)
          revert nq; intro nq1
          go_wp2_with fail
          go_quiet (fail)
          rw [Nat.add_sub_cancel_left]
          go_wp2_with fail
          refine bodyPost_ret (v := .bool false) (by first | (simp [results, go_sem]; done) | (simp [results, go_sem]; omega)) rfl ?_
          exact ⟨rfl, below_drewN (Below.refl _ _) _⟩
      · rw [decide_eq_false h1, Bool.false_and]
        go_enter Tryz.func86, Tryz.ntmps86
        go_wp2_with fail
        go_quiet (fail)
        revert nq; intro nq1
        go_wp2_with fail
        go_quiet (fail)
        rw [Nat.add_sub_cancel_left]
        go_wp2_with fail
        refine bodyPost_ret (v := .bool false) (by first | (simp [results, go_sem]; done) | (simp [results, go_sem]; omega)) rfl ?_
        exact ⟨rfl, below_drewN (Below.refl _ _) _⟩
    · rw [decide_eq_false h0, Bool.false_and]
      go_enter Tryz.func86, Tryz.ntmps86
      go_wp2_with fail
      go_quiet (fail)
      revert nq; intro nq1
      go_wp2_with fail
      go_quiet (fail)
      rw [Nat.add_sub_cancel_left]
      go_wp2_with fail
      refine bodyPost_ret (v := .bool false) (by first | (simp [results, go_sem]; done) | (simp [results, go_sem]; omega)) rfl ?_
      exact ⟨rfl, below_drewN (Below.refl _ _) _⟩
  · rw [decide_eq_false hb, Bool.false_and]
    have hb' : (ns : Int) ≤ (x : Int) + 3 := by omega
    clear s1
    go_enter Tryz.func86, Tryz.ntmps86
    go_wp2_with fail
    go_quiet (fail)
    go_wp2_with fail
    refine bodyPost_ret (v := .bool false) (by first | (simp [results, go_sem]; done) | (simp [results, go_sem]; omega)) rfl ?_
    exact ⟨rfl, below_drewN (Below.refl _ _) _⟩
end Go.Proofs.Qxb6500293aGreatRR
