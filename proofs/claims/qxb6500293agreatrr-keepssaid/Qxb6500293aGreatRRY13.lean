/-
  forOp walked: the three loops' instructions.
-/
import Derived.Test.Qxb6500293aGreatRRY9
namespace Go.Proofs.Qxb6500293aGreatRR
open Go.RowKit
open Ieee (double)
set_option linter.unusedVariables false
set_option linter.unusedSimpArgs false

/-- A value of the call's own is pushed. -/
theorem Vm.pushNew {own : Nat → Nat} {W w' : World} {m a nb tp : Nat} {M : Mc} (HV : Vm own W m a nb tp M) {i : Nat} (hi : i < M.th.length) (hs : (M.t i).sk.length ≤ 20000) (hb : Below W.heap.size W w') (T : Int) (N : Nat) (S : List UInt8) {n : Nat} (hn : w'.heap.size = n) :
    Calls Tryz.prog 60 #[.pointer (some ⟨a, i * 5, none⟩), .slice (some ⟨n, 0, none⟩) 1 1] (w'.alloc (vBox T N S)) fun e W' => e = .returned (.tuple #[]) ∧ Nf own W m a nb tp i (pushP M i [⟨T, N, S⟩]) W' := by
  subst hn
  have hb2 := below_two hb (below_one w' (vBox T N S))
  have := push_any (HV.below hb2) hi hs w'.heap.size 0 1 [⟨T, N, S⟩] (by simp) (vals_new w' [⟨T, N, S⟩])
  refine this.mono ?_
  rintro e w2 ⟨rfl, h⟩
  exact ⟨rfl, Nf.pre HV hb2 h⟩
theorem boolV_mk (r : Bool) : ∃ N : Nat, boolV r = ⟨1, N, []⟩ := ⟨_, rfl⟩
/-- Four slots in a row, as a window of the stack lays them. -/
structure Win4 (W : World) (b o : Nat) (v0 v1 v2 v3 : V) : Prop where
  lt : b < W.heap.size
  c0 : W.cell? ⟨b, o, none⟩ = some (.int .i64 v0.T) ∧ W.cell? ⟨b, o + 1, none⟩ = some (.int .u64 (v0.N : Int)) ∧ W.cell? ⟨b, o + 2, none⟩ = some (.string ⟨v0.S.toArray⟩)
  c1 : W.cell? ⟨b, o + 3, none⟩ = some (.int .i64 v1.T) ∧ W.cell? ⟨b, o + 4, none⟩ = some (.int .u64 (v1.N : Int)) ∧ W.cell? ⟨b, o + 5, none⟩ = some (.string ⟨v1.S.toArray⟩)
  c2 : W.cell? ⟨b, o + 6, none⟩ = some (.int .i64 v2.T) ∧ W.cell? ⟨b, o + 7, none⟩ = some (.int .u64 (v2.N : Int)) ∧ W.cell? ⟨b, o + 8, none⟩ = some (.string ⟨v2.S.toArray⟩)
  c3 : W.cell? ⟨b, o + 9, none⟩ = some (.int .i64 v3.T) ∧ W.cell? ⟨b, o + 10, none⟩ = some (.int .u64 (v3.N : Int)) ∧ W.cell? ⟨b, o + 11, none⟩ = some (.string ⟨v3.S.toArray⟩)
theorem Vm.win4 {own : Nat → Nat} {W : World} {m a nb tp : Nat} {M : Mc} (HV : Vm own W m a nb tp M) {i : Nat} (hi : i < M.th.length) {k : Nat} (hk : k + 3 < (M.t i).sk.length) : ∃ b cp, W.cell? ⟨a, i * 5 + 2, none⟩ = some (.slice (some ⟨b, 0, none⟩) (M.t i).sk.length cp) ∧ (M.t i).sk.length ≤ cp ∧ own b = 409 + 3 * i ∧ (∀ k, W.frozen? ⟨b, k, none⟩ = false) ∧ Win4 W b (k * 3) ((M.t i).sk[k]?.getD nilV) ((M.t i).sk[k + 1]?.getD nilV) ((M.t i).sk[k + 2]?.getD nilV) ((M.t i).sk[k + 3]?.getD nilV) := by
  obtain ⟨b, cp, s1, s2, s3, s4, s5, sz, s6, s7, s8⟩ := HV.skE hi (k := k) (by omega)
  obtain ⟨b', cp', t1, t2, t3, t4, t5, tz, t6, t7, t8⟩ := HV.skE hi (k := k + 1) (by omega)
  rw [s1] at t1
  cases t1
  obtain ⟨b', cp', u1, u2, u3, u4, u5, uz, u6, u7, u8⟩ := HV.skE hi (k := k + 2) (by omega)
  rw [s1] at u1
  cases u1
  obtain ⟨b', cp', v1, v2, v3, v4, v5, vz, v6, v7, v8⟩ := HV.skE hi (k := k + 3) (by omega)
  rw [s1] at v1
  cases v1
  refine ⟨b, cp, s1, s2, s4, sz, s3, ⟨s6, s7, s8⟩, ⟨?_, ?_, ?_⟩, ⟨?_, ?_, ?_⟩, ⟨?_, ?_, ?_⟩⟩
  · rw [show k * 3 + 3 = (k + 1) * 3 by omega]; exact t6
  · rw [show k * 3 + 4 = (k + 1) * 3 + 1 by omega]; exact t7
  · rw [show k * 3 + 5 = (k + 1) * 3 + 2 by omega]; exact t8
  · rw [show k * 3 + 6 = (k + 2) * 3 by omega]; exact u6
  · rw [show k * 3 + 7 = (k + 2) * 3 + 1 by omega]; exact u7
  · rw [show k * 3 + 8 = (k + 2) * 3 + 2 by omega]; exact u8
  · rw [show k * 3 + 9 = (k + 3) * 3 by omega]; exact v6
  · rw [show k * 3 + 10 = (k + 3) * 3 + 1 by omega]; exact v7
  · rw [show k * 3 + 11 = (k + 3) * 3 + 2 by omega]; exact v8
set_option maxRecDepth 8000 in
set_option maxHeartbeats 1600000 in
/-- IFORCHK. -/
theorem forChk {own : Nat → Nat} {W : World} {m a nb tp : Nat} {M : Mc} (HV : Vm own W m a nb tp M) {i : Nat} {b o cp : Nat} {v0 v1 v2 v3 : V} (hw : Win4 W b o v0 v1 v2 v3) (hd : (v0.T ≠ 2 ∨ v1.T ≠ 2 ∨ v2.T ≠ 2) ∨ (cmpW 1 (double.order v2.N 0) || cmpW 2 (double.order v2.N v2.N)) = true) :
    Calls Tryz.prog 109 #[.pointer (some ⟨m, 0, none⟩), .pointer (some ⟨a, i * 5, none⟩), .slice (some ⟨b, o, none⟩) 4 cp, .int .u8 30] W (ThrEnd W (str mFor)) := by
  obtain ⟨hlt, ⟨a0, a1, a2⟩, ⟨b0, b1, b2⟩, ⟨c0, c1, c2⟩, _⟩ := hw
  obtain ⟨q0, _, hml⟩ := HV.cellM (Below.refl W.heap.size W)
  have HR := fun W => raise_any mFor W
  unfold mFor at HR
  have HC1 := fun W => cmp_R (.pointer (some ⟨nb, 0, none⟩)) 1 v2.N 0 W
  have HC2 := fun W => cmp_R (.pointer (some ⟨nb, 0, none⟩)) 2 v2.N v2.N W
  obtain ⟨T0, N0, S0⟩ := v0
  obtain ⟨T1, N1, S1⟩ := v1
  obtain ⟨T2, N2, S2⟩ := v2
  simp only at *
  clear HV
  by_cases t0 : T0 = 2
  · subst t0
    by_cases t1 : T1 = 2
    · subst t1
      by_cases t2 : T2 = 2
      · subst t2
        have hd : (cmpW 1 (double.order N2 0) || cmpW 2 (double.order N2 N2)) = true := by
          rcases hd with h | h
          · simp at h
          · exact h
        generalize cmpW 1 (double.order N2 0) = x1 at *
        generalize cmpW 2 (double.order N2 N2) = x2 at *
        have HC1' : ∀ W, Calls Tryz.prog 64 #[.pointer (some ⟨nb, 0, none⟩), .int .i64 1, .int .u64 (N2 : Int), .int .u64 0] W fun e w' => e = .returned (.bool x1) ∧ w' = W := HC1
        cases x1 <;> cases x2
        · cases hd
        all_goals
          clear hd HC1
          go_enter Tryz.func109, Tryz.ntmps109
          go_wp2_with fail
          go_quiet ((go_at_call 64; exact Calls.quiet_of_same (HC1' _)))
          have k0 : (W.drewN nq).cell? ⟨m, 0, none⟩ = some (.pointer (some ⟨nb, 0, none⟩)) := q0
          have k1 : (W.drewN nq).cell? ⟨b, o + 7, none⟩ = some (.int .u64 (N2 : Int)) := c1
          have hbw : Hid (Below W.heap.size W (W.drewN nq)) := below_drewN (Below.refl _ _) _
          generalize W.drewN nq = w2 at *
          go_wp2_with fail
          go_quiet ((go_at_call 64; exact Calls.quiet_of_same (HC2 _)))
          go_wp2_with fail
          refine (HR _).mono ?_; rintro e w1 ⟨rfl, rfl⟩
          go_wp2_with fail
          simp [bodyPost]
          exact ⟨_, rfl, (by simpa using hbw.out.size), new_at _ _ (by simp), below_two (below_drewN hbw.out _) (below_one _ _)⟩
      · have b2' : (T2 != 2) = true := by simpa using t2
        clear hd HC1 HC2 t2
        go_enter Tryz.func109, Tryz.ntmps109
        go_wp2_with fail
        refine (HR _).mono ?_; rintro e w1 ⟨rfl, rfl⟩
        go_wp2_with fail
        simp [bodyPost]
        exact ⟨_, rfl, by simp, new_at _ _ (by simp), below_one _ _⟩
    · have b1' : (T1 != 2) = true := by simpa using t1
      clear hd HC1 HC2 t1
      go_enter Tryz.func109, Tryz.ntmps109
      go_wp2_with fail
      refine (HR _).mono ?_; rintro e w1 ⟨rfl, rfl⟩
      go_wp2_with fail
      simp [bodyPost]
      exact ⟨_, rfl, by simp, new_at _ _ (by simp), below_one _ _⟩
  · have b0' : (T0 != 2) = true := by simpa using t0
    clear hd HC1 HC2 t0
    go_enter Tryz.func109, Tryz.ntmps109
    go_wp2_with fail
    refine (HR _).mono ?_; rintro e w1 ⟨rfl, rfl⟩
    go_wp2_with fail
    simp [bodyPost]
    exact ⟨_, rfl, by simp, new_at _ _ (by simp), below_one _ _⟩
set_option maxRecDepth 8000 in
set_option maxHeartbeats 1600000 in
theorem forChk_ok {own : Nat → Nat} {W : World} {m a nb tp : Nat} {M : Mc} (HV : Vm own W m a nb tp M) {i : Nat} {b o cp : Nat} {v0 v1 v2 v3 : V} (hw : Win4 W b o v0 v1 v2 v3) (hT : v0.T = 2 ∧ v1.T = 2 ∧ v2.T = 2) (hd : (cmpW 1 (double.order v2.N 0) || cmpW 2 (double.order v2.N v2.N)) = false) :
    Calls Tryz.prog 109 #[.pointer (some ⟨m, 0, none⟩), .pointer (some ⟨a, i * 5, none⟩), .slice (some ⟨b, o, none⟩) 4 cp, .int .u8 30] W fun e W' => e = .returned (.tuple #[]) ∧ Below W.heap.size W W' := by
  obtain ⟨hlt, ⟨a0, a1, a2⟩, ⟨b0, b1, b2⟩, ⟨c0, c1, c2⟩, _⟩ := hw
  obtain ⟨q0, _, hml⟩ := HV.cellM (Below.refl W.heap.size W)
  have HC1 := fun W => cmp_R (.pointer (some ⟨nb, 0, none⟩)) 1 v2.N 0 W
  have HC2 := fun W => cmp_R (.pointer (some ⟨nb, 0, none⟩)) 2 v2.N v2.N W
  obtain ⟨T0, N0, S0⟩ := v0
  obtain ⟨T1, N1, S1⟩ := v1
  obtain ⟨T2, N2, S2⟩ := v2
  simp only at *
  obtain ⟨rfl, rfl, rfl⟩ := hT
  have h1 : cmpW 1 (double.order N2 0) = false := by revert hd; cases cmpW 1 (double.order N2 0) <;> simp
  have h2 : cmpW 2 (double.order N2 N2) = false := by revert hd; cases cmpW 2 (double.order N2 N2) <;> simp
  simp only [h2] at HC2
  have HC1' : ∀ W, Calls Tryz.prog 64 #[.pointer (some ⟨nb, 0, none⟩), .int .i64 1, .int .u64 (N2 : Int), .int .u64 0] W fun e w' => e = .returned (.bool false) ∧ w' = W := by rw [← h1]; exact HC1
  clear HV hd h1 h2 HC1
  go_enter Tryz.func109, Tryz.ntmps109
  go_wp2_with fail
  go_quiet ((go_at_call 64; exact Calls.quiet_of_same (HC1' _)))
  have k0 : (W.drewN nq).cell? ⟨m, 0, none⟩ = some (.pointer (some ⟨nb, 0, none⟩)) := q0
  have k1 : (W.drewN nq).cell? ⟨b, o + 7, none⟩ = some (.int .u64 (N2 : Int)) := c1
  have hbw : Hid (Below W.heap.size W (W.drewN nq)) := below_drewN (Below.refl _ _) _
  generalize W.drewN nq = w2 at *
  go_wp2_with fail
  go_quiet ((go_at_call 64; exact Calls.quiet_of_same (HC2 _)))
  go_wp2_with fail
  go_end0
  exact ⟨rfl, below_drewN hbw.out _⟩
set_option maxRecDepth 8000 in
set_option maxHeartbeats 1600000 in
/-- IFORTEST. -/
theorem forTest {own : Nat → Nat} {W : World} {m a nb tp : Nat} {M : Mc} (HV : Vm own W m a nb tp M) {i : Nat} (hi : i < M.th.length) (hs : (M.t i).sk.length ≤ 10000) {b o cp : Nat} {v0 v1 v2 v3 : V} (hw : Win4 W b o v0 v1 v2 v3) :
    Calls Tryz.prog 109 #[.pointer (some ⟨m, 0, none⟩), .pointer (some ⟨a, i * 5, none⟩), .slice (some ⟨b, o, none⟩) 4 cp, .int .u8 31] W fun e W' => e = .returned (.tuple #[]) ∧ Nf own W m a nb tp i (pushP M i [boolV (cmpW (if cmpW 5 (double.order v2.N 0) then 4 else 6) (double.order v0.N v1.N))]) W' := by
  have HHV : Hid (Vm own W m a nb tp M) := HV
  obtain ⟨hlt, ⟨a0, a1, a2⟩, ⟨b0, b1, b2⟩, ⟨c0, c1, c2⟩, _⟩ := hw
  obtain ⟨q0, _, hml⟩ := HV.cellM (Below.refl W.heap.size W)
  have HC1 : ∀ W, Calls Tryz.prog 64 #[.pointer (some ⟨nb, 0, none⟩), .int .i64 5, .int .u64 (v2.N : Int), .int .u64 0] W fun e w' => e = .returned (.bool (cmpW 5 (double.order v2.N 0))) ∧ w' = W := fun W => cmp_R (.pointer (some ⟨nb, 0, none⟩)) 5 v2.N 0 W
  have HC2 := fun W => cmp_R (.pointer (some ⟨nb, 0, none⟩)) (if cmpW 5 (double.order v2.N 0) then 4 else 6) v0.N v1.N W
  obtain ⟨T0, N0, S0⟩ := v0
  obtain ⟨T1, N1, S1⟩ := v1
  obtain ⟨T2, N2, S2⟩ := v2
  simp only at *
  clear HV
  cases hx : cmpW 5 (double.order N2 0)
  · rw [hx] at HC1
    simp only [hx, if_neg (show ¬ (false = true) by simp)] at HC2 ⊢
    generalize cmpW 6 (double.order N0 N1) = r at *
    obtain ⟨rN, hrN⟩ := boolV_mk r
    have HBO := fun W => bool_any r W
    rw [hrN, valV_mk] at HBO
    rw [hrN]
    clear hx hrN
    go_enter Tryz.func109, Tryz.ntmps109
    go_wp2_with fail
    go_quiet ((go_at_call 64; exact Calls.quiet_of_same (HC1 _)))
    have k0 : (W.drewN nq).cell? ⟨m, 0, none⟩ = some (.pointer (some ⟨nb, 0, none⟩)) := q0
    have k1 : (W.drewN nq).cell? ⟨b, o + 1, none⟩ = some (.int .u64 (N0 : Int)) := a1
    have k2 : (W.drewN nq).cell? ⟨b, o + 4, none⟩ = some (.int .u64 (N1 : Int)) := b1
    have hbw : Hid (Below W.heap.size W (W.drewN nq)) := below_drewN (Below.refl _ _) _
    generalize W.drewN nq = w2 at *
    go_wp2_with fail
    go_quiet ((go_at_call 64; exact Calls.quiet_of_same (HC2 _)))
    have hbw2 : Hid (Below W.heap.size W (w2.drewN nq)) := below_drewN hbw.out _
    generalize w2.drewN nq = w3 at *
    go_wp2_with fail
    refine (HBO _).mono ?_; rintro e w4 ⟨rfl, hb4⟩
    have HPU := HHV.out.pushNew hi (by omega) (below_two (below_two hbw2.out hb4) (below_one w4 (vBox 1 rN []))) 1 rN [] (n := w4.heap.size + 1) (by simp)
    clear hb4 HBO
    go_wp2_with fail
    refine HPU.mono ?_; rintro e w5 ⟨rfl, hN⟩
    have HN : Hid _ := hN
    clear hN HPU
    go_wp2_with fail
    go_end0
    exact ⟨rfl, HN.out⟩
  · rw [hx] at HC1
    simp only [hx, if_true] at HC2 ⊢
    generalize cmpW 4 (double.order N0 N1) = r at *
    obtain ⟨rN, hrN⟩ := boolV_mk r
    have HBO := fun W => bool_any r W
    rw [hrN, valV_mk] at HBO
    rw [hrN]
    clear hx hrN
    go_enter Tryz.func109, Tryz.ntmps109
    go_wp2_with fail
    go_quiet ((go_at_call 64; exact Calls.quiet_of_same (HC1 _)))
    have k0 : (W.drewN nq).cell? ⟨m, 0, none⟩ = some (.pointer (some ⟨nb, 0, none⟩)) := q0
    have k1 : (W.drewN nq).cell? ⟨b, o + 1, none⟩ = some (.int .u64 (N0 : Int)) := a1
    have k2 : (W.drewN nq).cell? ⟨b, o + 4, none⟩ = some (.int .u64 (N1 : Int)) := b1
    have hbw : Hid (Below W.heap.size W (W.drewN nq)) := below_drewN (Below.refl _ _) _
    generalize W.drewN nq = w2 at *
    go_wp2_with fail
    go_quiet ((go_at_call 64; exact Calls.quiet_of_same (HC2 _)))
    have hbw2 : Hid (Below W.heap.size W (w2.drewN nq)) := below_drewN hbw.out _
    generalize w2.drewN nq = w3 at *
    go_wp2_with fail
    refine (HBO _).mono ?_; rintro e w4 ⟨rfl, hb4⟩
    have HPU := HHV.out.pushNew hi (by omega) (below_two (below_two hbw2.out hb4) (below_one w4 (vBox 1 rN []))) 1 rN [] (n := w4.heap.size + 1) (by simp)
    clear hb4 HBO
    go_wp2_with fail
    refine HPU.mono ?_; rintro e w5 ⟨rfl, hN⟩
    have HN : Hid _ := hN
    clear hN HPU
    go_wp2_with fail
    go_end0
    exact ⟨rfl, HN.out⟩
end Go.Proofs.Qxb6500293aGreatRR
