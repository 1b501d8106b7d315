/-
  check 32, Check 12 walked: a machine that has ended.
-/
import Derived.Test.Qxb6500293aGreatRRB1
import Derived.BigQuiet
namespace Go.Proofs.Qxb6500293aGreatRR
open Go.RowKit
open Ieee (double)
set_option linter.unusedVariables false
set_option linter.unusedSimpArgs false

section
variable {own : Nat → Nat} {W : World} {m a nb tp : Nat} {M : Mc}
/-- The lengths of all rows. -/
theorem Vm.allLen (HV : Vm own W m a nb tp M) : (∃ ad cp, W.cell? ⟨m, 2, none⟩ = some (.slice ad M.pr.length cp)) ∧ (∃ ad cp, W.cell? ⟨m, 3, none⟩ = some (.slice ad M.ds.length cp)) ∧ (∃ ad cp, W.cell? ⟨m, 4, none⟩ = some (.slice ad M.ks.length cp)) ∧ (∃ ad cp, W.cell? ⟨m, 5, none⟩ = some (.slice ad M.co.length cp)) ∧ (∃ ad cp, W.cell? ⟨m, 6, none⟩ = some (.slice ad M.cs.length cp)) ∧ (∃ ad cp, W.cell? ⟨m, 7, none⟩ = some (.slice ad M.ux.length cp)) ∧ (∃ ad cp, W.cell? ⟨m, 8, none⟩ = some (.slice ad M.ce.length cp)) ∧ (∃ ad cp, W.cell? ⟨m, 11, none⟩ = some (.slice ad M.out.length cp)) := by
  obtain ⟨ad0, cp0, h0⟩ := HV.len 0 (by omega)
  obtain ⟨ad1, cp1, h1⟩ := HV.len 1 (by omega)
  obtain ⟨ad2, cp2, h2⟩ := HV.len 2 (by omega)
  obtain ⟨ad3, cp3, h3⟩ := HV.len 3 (by omega)
  obtain ⟨ad4, cp4, h4⟩ := HV.len 4 (by omega)
  obtain ⟨ad5, cp5, h5⟩ := HV.len 5 (by omega)
  obtain ⟨ad6, cp6, h6⟩ := HV.len 6 (by omega)
  obtain ⟨ad7, cp7, h7, _⟩ := HV.outC
  exact ⟨⟨ad0, cp0, h0 []⟩, ⟨ad1, cp1, h1 []⟩, ⟨ad2, cp2, h2 []⟩, ⟨ad3, cp3, h3 []⟩, ⟨ad4, cp4, h4 []⟩, ⟨ad5, cp5, h5 []⟩, ⟨ad6, cp6, h6 []⟩, ⟨ad7, cp7, h7⟩⟩
end
set_option maxRecDepth 16000 in
set_option maxHeartbeats 4000000 in
theorem check_ended {own : Nat → Nat} {W : World} {m a nb tp : Nat} {M : Mc} (HV : Vm own W m a nb tp M) (hE : Ended M) :
    Calls Tryz.prog 32 #[.pointer (some ⟨m, 0, none⟩), .int .i64 (-1), .int .i64 0] W fun e w' => e = .returned (.bool true) ∧ Below W.heap.size W w' := by
  obtain ⟨⟨a0, p0, c2⟩, ⟨a1, p1, c3⟩, ⟨a2, p2, c4⟩, ⟨a3, p3, c5⟩, ⟨a4, p4, c6⟩, ⟨a5, p5, c7⟩, ⟨a6, p6, c8⟩, ⟨a7, p7, c11⟩⟩ := HV.allLen
  obtain ⟨c10, c12, hml, hal⟩ := HV.hdC
  obtain ⟨c9, c95⟩ := HV.c9V
  obtain ⟨n0, n1, n2, n3, n4, n5, n6, n7⟩ := hE.nil
  rw [n0] at c2
  rw [n1] at c3
  rw [n2] at c4
  rw [n3] at c5
  rw [n4] at c6
  rw [n5] at c7
  rw [n6] at c8
  rw [n7] at c9
  simp only [List.length_nil] at c2 c3 c4 c5 c6 c7 c8 c9
  have hou := hE.ou.out
  have hen := hE.en
  have d1 : decide ((200 : Int) < (M.out.length : Int)) = false := decide_eq_false (by omega)
  have d2 : (M.en != 0) = true := by simpa using hen
  clear HV hE n0 n1 n2 n3 n4 n5 n6 n7 hen c95
  generalize M.out.length = ol at *
  generalize M.fuel = fu at *
  generalize M.en = en at *
  go_enter Tryz.func32, Tryz.ntmps32
  go_wp2_with fail
  go_quiet (fail)
  go_wp2_with fail
  go_ret
  exact ⟨rfl, below_drewN (Below.refl _ _) _⟩
end Go.Proofs.Qxb6500293aGreatRR
