/-
  checkThread walked.
-/
import Derived.Test.Qxb6500293aGreatRRB1
import Derived.BigQuiet
import Derived.Deep.LoopGhost
namespace Go.Proofs.Qxb6500293aGreatRR
open Go.RowKit
open Ieee (double)
set_option linter.unusedVariables false
set_option linter.unusedSimpArgs false

/-- What a thread at rest is found as. -/
structure CtC (W : World) (m a : Nat) (M : Mc) (i st fn tl cn sl nf ol xl : Nat) (ca fa sa oa xa : Option Addr) (cc fc sc oc xc : Nat) : Prop where
  c9 : W.cell? ⟨m, 9, none⟩ = some (.slice (some ⟨a, 0, none⟩) tl 5)
  t0 : W.cell? ⟨a, i * 5, none⟩ = some (i64 st)
  t1 : W.cell? ⟨a, i * 5 + 1, none⟩ = some (i64 fn)
  t2 : W.cell? ⟨a, i * 5 + 2, none⟩ = some (.slice sa sl sc)
  t3 : W.cell? ⟨a, i * 5 + 3, none⟩ = some (.slice fa nf fc)
  t4 : W.cell? ⟨a, i * 5 + 4, none⟩ = some (.slice oa ol oc)
  m6 : W.cell? ⟨m, 6, none⟩ = some (.slice ca cn cc)
  m8 : W.cell? ⟨m, 8, none⟩ = some (.slice xa xl xc)
  ml : m < W.heap.size
  al : a < W.heap.size
theorem Vm.ctC {own : Nat → Nat} {W : World} {m a nb tp : Nat} {M : Mc} (HV : Vm own W m a nb tp M) {i : Nat} (hi : i < M.th.length) : ∃ ca fa sa oa xa cc fc sc oc xc, CtC W m a M i (M.t i).st (M.t i).fn M.th.length M.cs.length (M.t i).sk.length (M.t i).fr.length (M.t i).op.length M.ce.length ca fa sa oa xa cc fc sc oc xc := by
  obtain ⟨t1, t2, ⟨fa, fc, t3⟩, hi5⟩ := HV.thC hi
  obtain ⟨sa, sc, s1, _⟩ := HV.skQ hi
  obtain ⟨oa, oc, o1, _⟩ := HV.opQ hi
  obtain ⟨ca, cc, c1⟩ := HV.len 4 (by omega)
  obtain ⟨xa, xc, x1⟩ := HV.len 6 (by omega)
  obtain ⟨_, _, h1, h2⟩ := HV.hdC
  exact ⟨ca, fa, sa, oa, xa, cc, fc, sc, oc, xc, ⟨HV.c9V.1, t1, t2, s1, t3, o1, c1 [], x1 [], h1, h2⟩⟩
set_option maxRecDepth 16000 in
set_option maxHeartbeats 4000000 in
/-- A thread that is fresh or dead. -/
theorem checkThread_dead {own : Nat → Nat} {W : World} {m a nb tp : Nat} {M : Mc} (HV : Vm own W m a nb tp M) (hA : Alive M none) {i : Nat} (hi : i < M.th.length) (hd : (M.t i).st = 1 ∨ (M.t i).st = 5) :
    Calls Tryz.prog 47 #[.pointer (some ⟨m, 0, none⟩), i64 i, .bool false, .int .i64 0] W fun e w' => e = .returned (.bool true) ∧ Below W.heap.size W w' := by
  have hT := hA.th i hi
  obtain ⟨d1, d2, d3⟩ := hT.dead hd
  have h5 := hA.th5
  obtain ⟨ca, fa, sa, oa, xa, cc, fc, sc, oc, xc, ⟨c9, t0, t1, t2, t3, t4, m6, m8, ml, al⟩⟩ := HV.ctC hi
  rw [d1] at t2
  rw [d2] at t3
  rw [d3] at t4
  have t2 : W.cell? ⟨a, i * 5 + 2, none⟩ = some (.slice sa 0 sc) := t2
  have t3 : W.cell? ⟨a, i * 5 + 3, none⟩ = some (.slice fa 0 fc) := t3
  have t4 : W.cell? ⟨a, i * 5 + 4, none⟩ = some (.slice oa 0 oc) := t4
  have hfn := hT.fn
  have h24 := hA.cl.cs24
  have hm0 := hT.main0
  clear m8 d1 d2 d3 hT hA HV
  generalize (M.t i).fn = fn at *
  generalize (M.t i).st = st at *
  generalize M.cs.length = cn at *
  generalize M.th.length = tl at *
  have f1 : decide ((cn : Int) ≤ (fn : Int)) = false := decide_eq_false (by omega)
  rcases hd with rfl | rfl
  · by_cases i0 : i = 0
    · subst i0
      have := hm0 rfl rfl
      subst this
      clear hm0
      go_enter Tryz.func47, Tryz.ntmps47
      go_wp2_with fail
      go_quiet (fail)
      revert nq; intro nq1
      go_wp2_with fail
      go_quiet (fail)
      go_wp2_with fail
      go_ret
      exact ⟨rfl, below_two (below_drewN (Below.refl _ _) _) (below_drewN (Below.refl _ _) _)⟩
    · have e0 : ((i : Int) == 0) = false := by rw [beq_eq_false_iff_ne]; omega
      clear hm0 i0
      go_enter Tryz.func47, Tryz.ntmps47
      go_wp2_with fail
      go_quiet (fail)
      revert nq; intro nq1
      go_wp2_with fail
      go_quiet (fail)
      go_wp2_with fail
      go_ret
      exact ⟨rfl, below_two (below_drewN (Below.refl _ _) _) (below_drewN (Below.refl _ _) _)⟩
  · by_cases i0 : i = 0
    · subst i0
      clear hm0
      go_enter Tryz.func47, Tryz.ntmps47
      go_wp2_with fail
      go_quiet (fail)
      revert nq; intro nq1
      go_wp2_with fail
      go_quiet (fail)
      go_wp2_with fail
      go_ret
      exact ⟨rfl, below_two (below_drewN (Below.refl _ _) _) (below_drewN (Below.refl _ _) _)⟩
    · have e0 : ((i : Int) == 0) = false := by rw [beq_eq_false_iff_ne]; omega
      clear hm0 i0
      go_enter Tryz.func47, Tryz.ntmps47
      go_wp2_with fail
      go_quiet (fail)
      revert nq; intro nq1
      go_wp2_with fail
      go_quiet (fail)
      go_wp2_with fail
      go_ret
      exact ⟨rfl, below_two (below_drewN (Below.refl _ _) _) (below_drewN (Below.refl _ _) _)⟩
end Go.Proofs.Qxb6500293aGreatRR
