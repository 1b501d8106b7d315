/-
  Out, valid walked.
-/
import Derived.Test.Qxb6500293aGreatRRY3
namespace Go.Proofs.Qxb6500293aGreatRR
open Go.RowKit
open Ieee (double)
set_option linter.unusedVariables false
set_option linter.unusedSimpArgs false

theorem Vm.tabR {own : Nat → Nat} {W : World} {m a nb tp : Nat} {M : Mc} (HV : Vm own W m a nb tp M) : RS own W tp M.tb ∧ GoodSt M.tb ∧ W.cell? ⟨m, 1, none⟩ = some (.pointer (some ⟨tp, 0, none⟩)) ∧ W.cell? ⟨m, 0, none⟩ = some (.pointer (some ⟨nb, 0, none⟩)) ∧ m < W.heap.size := by
  obtain ⟨vals, L, H⟩ := HV
  exact ⟨H.tab, H.tab.good, H.c1, H.c0, H.mlt⟩
/-- The lengths of the machine's rows, as its slices bear them. -/
theorem Vm.len {own : Nat → Nat} {W : World} {m a nb tp : Nat} {M : Mc} (HV : Vm own W m a nb tp M) (j : Nat) (hj : j < 7) : ∃ ad cp, ∀ L, W.cell? ⟨m, 2 + j, none⟩ = some (.slice ad (rowM M L j).n cp) := by
  obtain ⟨vals, L, H⟩ := HV
  obtain ⟨p1, p2, p3⟩ := H.row j (by omega)
  have hloc : locM m a j = ⟨m, 2 + j, none⟩ := by unfold locM; rw [if_pos hj]
  rw [hloc] at p1
  obtain ⟨ad, cp, hv⟩ := row_slice p2
  refine ⟨ad, cp, fun L' => ?_⟩
  rw [p1, hv, row_low M M L' L ⟨rfl, rfl, rfl, rfl, rfl, rfl, rfl, rfl⟩ j (by omega)]
set_option maxRecDepth 8000 in
set_option maxHeartbeats 1600000 in
theorem valid_any {own : Nat → Nat} {W : World} {m a nb tp : Nat} {M : Mc} (HV : Vm own W m a nb tp M) (v : V) (hv : v.Ok) (hcs : M.cs.length ≤ 100000) :
    Calls Tryz.prog 58 #[.pointer (some ⟨m, 0, none⟩), valV v] W fun e W' => e = .returned (.bool (validP M v)) ∧ Below W.heap.size W W' := by
  have HWF := fun W => wf_any v W hv
  have HCMP := fun W => cmp_R (.pointer (some ⟨nb, 0, none⟩)) 2 v.N v.N W
  have hself := cmp_self hv.N
  obtain ⟨hRS, hG, c1, c0, hml⟩ := HV.tabR
  obtain ⟨c9, h5⟩ := HV.c9V
  obtain ⟨ad, cp, c6⟩ := HV.len 4 (by omega)
  have c6 : W.cell? ⟨m, 6, none⟩ = some (.slice ad M.cs.length cp) := c6 []
  obtain ⟨T, N, S⟩ := v
  rw [valV_mk] at *
  have hb1 := below_one W (vBox T N S)
  have q0 := (hb1.cell (p := ⟨m, 0, none⟩) hml).trans c0
  have q1 := (hb1.cell (p := ⟨m, 1, none⟩) hml).trans c1
  have q6 := (hb1.cell (p := ⟨m, 6, none⟩) hml).trans c6
  have q9 := (hb1.cell (p := ⟨m, 9, none⟩) hml).trans c9
  obtain ⟨b0, b1, b2, _⟩ := cells3 (World.alloc_heap_new W (vBox T N S))
  have hHN : Hid (N < 18446744073709551616) := hv.N
  have HCNT : Hid (∀ w', Below (W.alloc (vBox T N S)).heap.size (W.alloc (vBox T N S)) w' → Calls Tryz.prog 46 #[.pointer (some ⟨tp, 0, none⟩)] w' fun e w2 => e = .returned (.int .i64 (M.tb.length : Int)) ∧ w2 = w') := by
    intro w' hw
    exact rcount own tp M.tb w' ((hRS.below hb1).below hw) hG
  simp only at hself HCMP
  have HPOST : Hid (∀ w', Below (W.alloc (vBox T N S)).heap.size (W.alloc (vBox T N S)) w' → w'.cell? ⟨m, 0, none⟩ = some (.pointer (some ⟨nb, 0, none⟩)) ∧ w'.cell? ⟨m, 1, none⟩ = some (.pointer (some ⟨tp, 0, none⟩)) ∧ w'.cell? ⟨m, 6, none⟩ = some (.slice ad M.cs.length cp) ∧ w'.cell? ⟨m, 9, none⟩ = some (.slice (some ⟨a, 0, none⟩) M.th.length 5) ∧ w'.cell? ⟨W.heap.size, 0, none⟩ = some (.int .i64 T) ∧ w'.cell? ⟨W.heap.size, 1, none⟩ = some (.int .u64 (N : Int)) ∧ Below W.heap.size W w') := by
    intro w' hw
    have hs : (W.alloc (vBox T N S)).heap.size = W.heap.size + 1 := by simp
    exact ⟨(hw.cell (p := ⟨m, 0, none⟩) (by rw [hs]; show m < _; omega)).trans q0, (hw.cell (p := ⟨m, 1, none⟩) (by rw [hs]; show m < _; omega)).trans q1, (hw.cell (p := ⟨m, 6, none⟩) (by rw [hs]; show m < _; omega)).trans q6, (hw.cell (p := ⟨m, 9, none⟩) (by rw [hs]; show m < _; omega)).trans q9, (hw.cell (p := ⟨W.heap.size, 0, none⟩) (by rw [hs]; show W.heap.size < _; omega)).trans b0, (hw.cell (p := ⟨W.heap.size, 1, none⟩) (by rw [hs]; show W.heap.size < _; omega)).trans b1, hb1.trans (hw.mono (by rw [hs]; omega))⟩
  have HWV : Hid (validP M ⟨T, N, S⟩ = (wfB ⟨T, N, S⟩ && (if T = 2 then decide (¬ 2047 * 2 ^ 52 < N % 2 ^ 63 ∨ N = nanBits) else if T = 4 then decide (N < M.tb.length) else if T = 5 then decide (N < M.cs.length) else if T = 7 then decide (N < M.th.length) else true))) := rfl
  have htb : M.tb.length ≤ 100 := by
    obtain ⟨reps, count, h1, h2⟩ := hRS
    rw [← h2, stOf_len h1.cnt]
    have := h1.cnt
    have := h1.max
    omega
  have hsz : ¬ m = W.heap.size := by omega
  generalize hw : wfB ⟨T, N, S⟩ = wb at *
  clear hRS hG c1 c0 c9 c6 q0 q1 q6 q9 hb1 HV hv hw b0 b1 b2
  generalize M.tb.length = tl at *
  generalize M.cs.length = cl at *
  generalize M.th.length = thl at *
  cases wb
  · go_enter Tryz.func58, Tryz.ntmps58
    go_wp2_with fail
    refine (HWF _).mono ?_; rintro e w1 ⟨rfl, hB⟩
    have HB : Hid _ := HPOST.out _ hB
    clear hB HPOST HCNT HCMP
    go_wp2_with fail
    go_ret
    exact ⟨by rw [HWV.out]; rfl, HB.out.2.2.2.2.2.2⟩
  · have hn63 : Hid (cmpW 2 (double.order N N) = decide (2047 * 2 ^ 52 < N % 2 ^ 63)) := hself
    clear hself
    by_cases t2 : T = 2
    · subst t2
      by_cases hnan : 2047 * 2 ^ 52 < N % 2 ^ 63
      · have hc : cmpW 2 (double.order N N) = true := by rw [hn63.out]; exact decide_eq_true hnan
        have HO : Hid (validP M ⟨2, N, S⟩ = decide (N = nanBits)) := by
          rw [HWV.out]
          show _ = _
          simp [hnan]
        have hq : ((N : Int) == 9221120237041090561) = decide (N = nanBits) := by
          rw [Bool.eq_iff_iff, beq_iff_eq, decide_eq_true_eq]
          unfold nanBits
          omega
        simp only [hc] at HCMP
        clear hn63 hnan hc
        go_enter Tryz.func58, Tryz.ntmps58
        go_wp2_with fail
        refine (HWF _).mono ?_; rintro e w1 ⟨rfl, hB⟩
        obtain ⟨g0, g1, g6, g9, gT, gN, gB⟩ := HPOST.out _ hB
        have HB : Hid _ := gB
        clear hB HPOST HCNT gB
        go_wp2_with fail
        go_quiet ((go_at_call 64; exact Calls.quiet_of_same (HCMP _)))
        go_wp2_with fail
        go_ret
        exact ⟨by rw [HO.out]; rfl, HB.out.trans (below_drewN (Below.refl _ _) _)⟩
      · have hc : cmpW 2 (double.order N N) = false := by rw [hn63.out]; exact decide_eq_false hnan
        have HO : Hid (validP M ⟨2, N, S⟩ = true) := by
          rw [HWV.out]
          show _ = _
          simp [hnan]
        simp only [hc] at HCMP
        clear hn63 hnan hc
        go_enter Tryz.func58, Tryz.ntmps58
        go_wp2_with fail
        refine (HWF _).mono ?_; rintro e w1 ⟨rfl, hB⟩
        obtain ⟨g0, g1, g6, g9, gT, gN, gB⟩ := HPOST.out _ hB
        have HB : Hid _ := gB
        clear hB HPOST HCNT gB
        go_wp2_with fail
        go_quiet ((go_at_call 64; exact Calls.quiet_of_same (HCMP _)))
        go_wp2_with fail
        go_ret
        exact ⟨by rw [HO.out]; rfl, HB.out.trans (below_drewN (Below.refl _ _) _)⟩
    · have b2 : (T == 2) = false := by rw [beq_eq_false_iff_ne]; exact t2
      by_cases t4 : T = 4
      · subst t4
        have HO : Hid (validP M ⟨4, N, S⟩ = decide (N < tl)) := by
          rw [HWV.out]
          show _ = _
          simp
        clear hn63 HCMP t2 b2
        go_enter Tryz.func58, Tryz.ntmps58
        go_wp2_with fail
        refine (HWF _).mono ?_; rintro e w1 ⟨rfl, hB⟩
        obtain ⟨g0, g1, g6, g9, gT, gN, gB⟩ := HPOST.out _ hB
        have HB : Hid _ := gB
        have HC := HCNT.out _ hB
        clear hB HPOST HCNT gB
        go_wp2_with fail
        refine HC.mono ?_; rintro e w2 ⟨rfl, rfl⟩
        go_wp2_with fail
        go_ret
        exact ⟨by rw [HO.out]; rfl, HB.out⟩
      · have b4 : (T == 4) = false := by rw [beq_eq_false_iff_ne]; exact t4
        by_cases t5 : T = 5
        · subst t5
          have HO : Hid (validP M ⟨5, N, S⟩ = decide (N < cl)) := by
            rw [HWV.out]
            show _ = _
            simp
          clear hn63 HCMP t2 b2 t4 b4
          go_enter Tryz.func58, Tryz.ntmps58
          go_wp2_with fail
          refine (HWF _).mono ?_; rintro e w1 ⟨rfl, hB⟩
          obtain ⟨g0, g1, g6, g9, gT, gN, gB⟩ := HPOST.out _ hB
          have HB : Hid _ := gB
          clear hB HPOST HCNT gB
          go_wp2_with fail
          go_quiet (fail)
          go_wp2_with fail
          go_ret
          exact ⟨by rw [HO.out]; rfl, HB.out.trans (below_drewN (Below.refl _ _) _)⟩
        · have b5 : (T == 5) = false := by rw [beq_eq_false_iff_ne]; exact t5
          by_cases t7 : T = 7
          · subst t7
            have HO : Hid (validP M ⟨7, N, S⟩ = decide (N < thl)) := by
              rw [HWV.out]
              show _ = _
              simp
            clear hn63 HCMP t2 b2 t4 b4 t5 b5
            go_enter Tryz.func58, Tryz.ntmps58
            go_wp2_with fail
            refine (HWF _).mono ?_; rintro e w1 ⟨rfl, hB⟩
            obtain ⟨g0, g1, g6, g9, gT, gN, gB⟩ := HPOST.out _ hB
            have HB : Hid _ := gB
            clear hB HPOST HCNT gB
            go_wp2_with fail
            go_quiet (fail)
            go_wp2_with fail
            go_ret
            exact ⟨by rw [HO.out]; rfl, HB.out.trans (below_drewN (Below.refl _ _) _)⟩
          · have b7 : (T == 7) = false := by rw [beq_eq_false_iff_ne]; exact t7
            have HO : Hid (validP M ⟨T, N, S⟩ = true) := by
              rw [HWV.out]
              show _ = _
              simp [t2, t4, t5, t7]
            clear hn63 HCMP t2 t4 t5 t7
            go_enter Tryz.func58, Tryz.ntmps58
            go_wp2_with fail
            refine (HWF _).mono ?_; rintro e w1 ⟨rfl, hB⟩
            obtain ⟨g0, g1, g6, g9, gT, gN, gB⟩ := HPOST.out _ hB
            have HB : Hid _ := gB
            clear hB HPOST HCNT gB
            go_wp2_with fail
            go_ret
            exact ⟨by rw [HO.out]; rfl, HB.out⟩
/-- The output, as its slice bears it. -/
theorem Vm.outE {own : Nat → Nat} {W : World} {m a nb tp : Nat} {M : Mc} (HV : Vm own W m a nb tp M) : ∃ ad cp, W.cell? ⟨m, 11, none⟩ = some (.slice ad M.out.length cp) ∧ W.ownsRow 0 5 1 (.slice ad M.out.length cp) M.out.length (M.out.flatMap byC) := by
  obtain ⟨vals, L, H⟩ := HV
  obtain ⟨p1, p2, p3⟩ := H.row 7 (by omega)
  have p2 : W.ownsRow 0 5 1 (vals 7) M.out.length (M.out.flatMap byC) := p2
  obtain ⟨ad, cp, hv⟩ := row_slice p2
  rw [hv] at p2
  exact ⟨ad, cp, by rw [← hv]; exact p1, p2⟩
theorem flat_by (l : List UInt8) : l.flatMap byC = l.map cel := by
  induction l with
  | nil => rfl
  | cons a l ih => rw [List.flatMap_cons, List.map_cons, ih]; rfl
/-- The bytes of a row, as a string. -/
theorem row_str {W : World} {ad : Option Addr} {cp : Nat} {l : List UInt8} (h : W.ownsRow 0 5 1 (.slice ad l.length cp) l.length (l.flatMap byC)) : (convert 59 9 (.slice ad l.length cp)).run Tryz.prog W = .ok (.string ⟨l.toArray⟩) W := by
  rw [run_convert_bytes_string W 59 9 5 _ _ _ Tryz.underlying59 Tryz.underlying5 Tryz.underlying9]
  rcases h.2 with ⟨h1, h0⟩ | ⟨g, cap, cur, h1, hb, hgg, hc, _⟩
  · have h2 : l.length = 0 := h0
    rw [List.length_eq_zero_iff] at h2
    subst h2
    cases h1
    simp [Conv.bytesToString, go_sem]
    rfl
  · cases h1
    have hflat := flat_by l
    have hload : (loadCells ⟨g, 0, none⟩ l.length).run Tryz.prog W = .ok (l.map cel).toArray W := by
      have := run_loadCells_list (P := Tryz.prog) W ⟨g, 0, none⟩ (l.map cel) (by
        intro j v hj
        have hjl := (List.getElem?_eq_some_iff.1 hj).1
        rw [List.length_map] at hjl
        rw [add_at, Nat.zero_add, row_at h (by omega), hflat, hj])
      rw [List.length_map] at this
      exact this
    have := run_bytesToString (P := Tryz.prog) W ⟨g, 0, none⟩ l.length cp (l.map fun c => (c.toNat : Int)) (by rw [hload, List.map_map]; rfl)
    rw [this, fold_push]
    simp
set_option maxRecDepth 8000 in
set_option maxHeartbeats 400000 in
theorem Out_any {own : Nat → Nat} {W : World} {m a nb tp : Nat} {M : Mc} (HV : Vm own W m a nb tp M) :
    Calls Tryz.prog 24 #[.pointer (some ⟨m, 0, none⟩)] W fun e W' => e = .returned (.string ⟨M.out.toArray⟩) ∧ W' = W := by
  obtain ⟨ad, cp, c11, hrow⟩ := HV.outE
  have hconv : (convert 59 9 (.slice ad M.out.length cp)).run Tryz.prog W = .ok (.string ⟨M.out.toArray⟩) W := row_str hrow
  clear hrow HV
  go_enter Tryz.func24, Tryz.ntmps24
  go_wp2_with fail
  go_ret
  exact ⟨rfl, rfl⟩
end Go.Proofs.Qxb6500293aGreatRR
