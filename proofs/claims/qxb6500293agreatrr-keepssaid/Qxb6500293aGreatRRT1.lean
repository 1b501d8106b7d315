import Derived.Test.Qxb6500293aGreatRRT0
import Derived.Deep.QuietTactic
import Derived.BigQuiet
namespace Go.Proofs.Qxb6500293aGreatRR
open Go.RowKit
open Ieee (double)
set_option linter.unusedVariables false
set_option linter.unusedSimpArgs false

/-- A value, as Go holds it. -/
def valV (v : V) : Value := .agg #[.int .i64 v.T, .int .u64 v.N, .string ⟨v.S.toArray⟩]
theorem valV_mk (T : Int) (N : Nat) (S : List UInt8) : valV ⟨T, N, S⟩ = .agg #[.int .i64 T, .int .u64 N, .string ⟨S.toArray⟩] := rfl
theorem below_one (w : World) (o : Obj) : Below w.heap.size w (w.alloc o) := (Below.refl _ _).alloc (Nat.le_refl _) _

set_option maxHeartbeats 800000 in
theorem isNil_any (v : V) (w : World) : Calls Tryz.prog 50 #[valV v] w fun e w' => e = .returned (.bool (isNilB v)) ∧ Below w.heap.size w w' := by
  obtain ⟨T, N, S⟩ := v
  rw [valV_mk]
  go_enter Tryz.func50, Tryz.ntmps50
  go_wp2
  all_goals
    go_ret
    exact ⟨ret_bool (by simp [isNilB, eqV, decV, nilV, *]), below_one _ _⟩

theorem pack_eqn {T : Int} {N : Nat} (h0 : 0 ≤ T) (h7 : T ≤ 7) (hN : N < 4294967296) : bits .or .u64 (T * 4294967296) (N : Int) = ((T.toNat * 4294967296 + N : Nat) : Int) := by
  obtain ⟨t, rfl⟩ : ∃ t : Nat, T = t := ⟨T.toNat, by omega⟩
  have h := u64_or_nat (t * 4294967296) N (by omega) (by omega)
  rw [show ((t * 4294967296 : Nat) : Int) = (t : Int) * 4294967296 from by omega, nat_join 32 (t * 4294967296) N (by omega) (by omega)] at h
  exact h
set_option maxHeartbeats 800000 in
theorem packK_any (v : V) (w : World) (hw : wfB v = true) (h2 : v.T ≠ 2) (h3 : v.T ≠ 3) : Calls Tryz.prog 82 #[valV v] w fun e w' => e = .returned (.int .u64 (packN v : Nat)) ∧ Below w.heap.size w w' := by
  obtain ⟨hS, t0, t7, hN⟩ := wf_other hw h3
  have hN := hN h2
  obtain ⟨T, N, S⟩ := v
  rw [valV_mk]
  simp only at *
  have hp := pack_eqn t0 t7 hN
  have HV : Hid (packN ⟨T, N, S⟩ = T.toNat * 4294967296 + N) := rfl
  obtain ⟨X, hX⟩ : ∃ X : Nat, X = T.toNat * 4294967296 + N := ⟨_, rfl⟩
  rw [← hX] at hp
  have HX : Hid (X = T.toNat * 4294967296 + N) := hX
  clear hX hw h2 h3 hS
  go_enter Tryz.func82, Tryz.ntmps82
  go_wp2
  go_ret
  rw [HV.out]
  exact ⟨ret_int (by rw [HX.out]), below_one _ _⟩
set_option maxRecDepth 4000 in
set_option maxHeartbeats 1600000 in
theorem wf_any (v : V) (w : World) (hv : v.Ok) : Calls Tryz.prog 62 #[valV v] w fun e w' => e = .returned (.bool (wfB v)) ∧ Below w.heap.size w w' := by
  have hS := hv.S
  have hN := hv.N
  obtain ⟨T, N, S⟩ := v
  rw [valV_mk]
  simp only at *
  clear hv
  by_cases t3 : T = 3
  · subst t3
    go_enter Tryz.func62, Tryz.ntmps62
    go_wp2
    all_goals
      go_ret
      exact ⟨ret_bool (by rw [Bool.eq_iff_iff]; simp [wfB, *]; try omega), below_one _ _⟩
  by_cases cS : S = []
  · subst cS
    by_cases c0 : T < 0
    · have HV : Hid (wfB ⟨T, N, []⟩ = false) := by show _ = _; simp [wfB, t3]; omega
      have b3 : (T == 3) = false := by simpa using t3
      clear t3
      go_enter Tryz.func62, Tryz.ntmps62
      go_wp2
      go_ret
      exact ⟨ret_bool HV.out.symm, below_one _ _⟩
    by_cases c7 : 7 < T
    · have HV : Hid (wfB ⟨T, N, []⟩ = false) := by show _ = _; simp [wfB, t3]; omega
      have b3 : (T == 3) = false := by simpa using t3
      clear t3
      go_enter Tryz.func62, Tryz.ntmps62
      go_wp2
      go_ret
      exact ⟨ret_bool HV.out.symm, below_one _ _⟩
    rcases (by omega : T = 0 ∨ T = 1 ∨ T = 2 ∨ T = 4 ∨ T = 5 ∨ T = 6 ∨ T = 7) with rfl | rfl | rfl | rfl | rfl | rfl | rfl
    all_goals
      clear t3 c0 c7
      go_enter Tryz.func62, Tryz.ntmps62
      go_wp2
      all_goals
        go_ret
        exact ⟨ret_bool (by rw [Bool.eq_iff_iff]; simp [wfB, *]; try omega), below_one _ _⟩
  · have HV : Hid (wfB ⟨T, N, S⟩ = false) := by show _ = _; simp [wfB, t3, cS]
    have b3 : (T == 3) = false := by simpa using t3
    have bS : (S != []) = true := by simpa using cS
    have bS2 : (S == []) = false := by simpa using cS
    clear t3 cS
    go_enter Tryz.func62, Tryz.ntmps62
    go_wp2
    go_ret
    exact ⟨ret_bool HV.out.symm, below_one _ _⟩

theorem dec_len {u : Nat} (h : u < 18446744073709551616) : (dec u).length ≤ 20 := by rw [dec_length]; exact (nd_spec _ h).2.2.1
theorem itoaL_len {i : Int} (h1 : -9223372036854775808 ≤ i) (h2 : i ≤ 9223372036854775807) : (itoaL i).length ≤ 21 := by
  have := dec_len (u := i.natAbs) (by omega)
  unfold itoaL
  split
  · simp; omega
  · omega
theorem below_two {x y z : World} (h : Below x.heap.size x y) (k : Below y.heap.size y z) : Below x.heap.size x z := (Stp.below (b := x.heap.size) (B := x.heap.size) ((Stp.of_below (b := x.heap.size) h).trans ⟨k.os, k.tape, k.output, k.size, fun i hi _ => k.block i hi⟩) (Nat.le_refl _) (Nat.le_refl _))
theorem showV_len {v : V} (hw : wfB v = true) (hN : v.N < 18446744073709551616) : (showV v).length ≤ 63 := by
  unfold showV
  by_cases t : v.T = 3
  · have h := wf_str hw t
    have := itoaL_len (i := (v.S.length : Int)) (by omega) (by omega)
    rw [if_pos t]; simp; omega
  · have h := wf_other hw t
    have := itoaL_len (i := v.T) (by omega) (by omega)
    have := dec_len hN
    rw [if_neg t]; simp; omega
/-- The block of a boxed value stays. -/
theorem box_cells {w w' : World} {T : Int} {N : Nat} {S : List UInt8} (h : Below (w.alloc (.cells #[.int .i64 T, .int .u64 N, .string ⟨S.toArray⟩] 33)).heap.size (w.alloc (.cells #[.int .i64 T, .int .u64 N, .string ⟨S.toArray⟩] 33)) w') :
    w'.cell? ⟨w.heap.size, 0, none⟩ = some (.int .i64 T) ∧ w'.cell? ⟨w.heap.size, 1, none⟩ = some (.int .u64 N) ∧ w'.cell? ⟨w.heap.size, 2, none⟩ = some (.string ⟨S.toArray⟩) := by
  have h1 : w'.heap[w.heap.size]? = some (.cells #[.int .i64 T, .int .u64 N, .string ⟨S.toArray⟩] 33) := by
    rw [h.block _ (by simp)]
    show (w.heap.push _)[_]? = _
    simp
  simp [World.cell?, h1]
set_option maxRecDepth 4000 in
set_option maxHeartbeats 1600000 in
theorem showVal_any (v : V) (w : World) (hw : wfB v = true) (hN : v.N < 18446744073709551616) : Calls Tryz.prog 17 #[valV v] w fun e w' => e = .returned (.string ⟨(showV v).toArray⟩) ∧ Below w.heap.size w w' := by
  by_cases t : v.T = 3
  · obtain ⟨h1, h2⟩ := wf_str hw t
    have HV : Hid (showV v = [115] ++ itoaL v.S.length ++ [58] ++ v.S) := by show _ = _; unfold showV; rw [if_pos t]
    have l1 := itoaL_len (i := (v.S.length : Int)) (by omega) (by omega)
    have H1 := fun w => itoa_any (v.S.length : Int) w (by omega) (by omega)
    obtain ⟨T, N, S⟩ := v
    rw [valV_mk]
    simp only at *
    subst t h1
    generalize itoaL (S.length : Int) = Z at *
    clear hw hN
    go_enter Tryz.func17, Tryz.ntmps17
    go_wp2_with fail
    refine (H1 _).mono ?_; rintro e w1 ⟨rfl, hb⟩
    obtain ⟨c0, c1, c2⟩ := box_cells hb
    have HB : Hid (Below w.heap.size w w1) := below_two (below_one _ _) hb
    clear hb
    go_wp2
    go_ret
    rw [HV.out]
    exact ⟨ret_str (by simp [str_append]), HB.out⟩
  · obtain ⟨h1, h2, h3, h4⟩ := wf_other hw t
    have HV : Hid (showV v = [118] ++ itoaL v.T ++ [46] ++ dec v.N) := by show _ = _; unfold showV; rw [if_neg t]
    have l1 := itoaL_len (i := v.T) (by omega) (by omega)
    have l2 := dec_len hN
    have H0 := fun w => itoa_any 0 w (by omega) (by omega)
    have H1 := fun w => itoa_any v.T w (by omega) (by omega)
    have H2 := fun w => utoa_any v.N w hN
    obtain ⟨T, N, S⟩ := v
    rw [valV_mk]
    simp only at *
    subst h1
    have b3 : (T == 3) = false := by simpa using t
    generalize itoaL T = Z at *
    generalize dec N = Y at *
    clear hw h4 t
    go_enter Tryz.func17, Tryz.ntmps17
    go_wp2_with fail
    refine (H0 _).mono ?_; rintro e w1 ⟨rfl, hb⟩
    obtain ⟨c0, c1, c2⟩ := box_cells hb
    have HB : Hid (Below w.heap.size w w1) := below_two (below_one _ _) hb
    have k1 := hb.size
    simp only [World.size_alloc] at k1
    clear hb
    go_wp2_with fail
    refine (H2 _).mono ?_; rintro e w2 ⟨rfl, hb⟩
    have d0 : w2.cell? ⟨w.heap.size, 0, none⟩ = _ := (hb.cell (p := ⟨w.heap.size, 0, none⟩) (by dsimp only; omega)).trans c0
    have d2 : w2.cell? ⟨w.heap.size, 2, none⟩ = _ := (hb.cell (p := ⟨w.heap.size, 2, none⟩) (by dsimp only; omega)).trans c2
    have HB2 : Hid (Below w.heap.size w w2) := below_two HB.out hb
    have k2 := hb.size
    clear hb c0 c1 c2
    go_wp2_with fail
    refine (H1 _).mono ?_; rintro e w3 ⟨rfl, hb⟩
    have e2 : w3.cell? ⟨w.heap.size, 2, none⟩ = _ := (hb.cell (p := ⟨w.heap.size, 2, none⟩) (by dsimp only; omega)).trans d2
    have HB3 : Hid (Below w.heap.size w w3) := below_two HB2.out hb
    clear hb d0 d2
    go_wp2
    go_ret
    rw [HV.out]
    exact ⟨ret_str (by simp [str_append]), HB3.out⟩
end Go.Proofs.Qxb6500293aGreatRR
