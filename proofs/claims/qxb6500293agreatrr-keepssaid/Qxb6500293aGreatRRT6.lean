import Derived.Test.Qxb6500293aGreatRRT5
namespace Go.Proofs.Qxb6500293aGreatRR
open Go.RowKit
open Ieee (double)
set_option linter.unusedVariables false
set_option linter.unusedSimpArgs false

theorem ret_vi' {v : Value} {i : Int} {o : V × Int} (h1 : v = valV o.1) (h2 : i = o.2) : Ending.returned (.tuple #[v, .int .i64 i]) = .returned (.tuple #[valV o.1, .int .i64 o.2]) := by rw [h1, h2]
/-- Two values in fresh blocks; what follows leaves them. -/
theorem two_vals {w w' : World} {k z : V} (h : Below ((w.alloc (.cells #[.int .i64 k.T, .int .u64 k.N, .string ⟨k.S.toArray⟩] 33)).alloc (.cells #[.int .i64 z.T, .int .u64 z.N, .string ⟨z.S.toArray⟩] 33)).heap.size ((w.alloc (.cells #[.int .i64 k.T, .int .u64 k.N, .string ⟨k.S.toArray⟩] 33)).alloc (.cells #[.int .i64 z.T, .int .u64 z.N, .string ⟨z.S.toArray⟩] 33)) w') :
    VB w' w.heap.size k ∧ VB w' (w.heap.size + 1) z ∧ Below w.heap.size w w' := by
  refine ⟨((VB.new w k).alloc _).below h, ?_, below_two ((below_one _ _).alloc (by simp) _) h⟩
  have := VB.new (w.alloc (.cells #[.int .i64 k.T, .int .u64 k.N, .string ⟨k.S.toArray⟩] 33)) z
  rw [World.size_alloc] at this
  exact this.below h

theorem VB.set {w : World} {b : Nat} {v : V} (h : VB w b v) {p : Addr} (hp : p.block ≠ b) (u : Value) : VB (w.setCell p u) b v := by
  unfold VB at *
  rw [Below.heap_setCell _ _ _ _ (Ne.symm hp)]; exact h
set_option maxRecDepth 8000 in
set_option maxHeartbeats 3200000 in
theorem get_any (own : Nat → Nat) (x : Nat) (reps : List TabR) (count : Nat) (h : Int) (k : V) (w : World) (H : RealAt own w x reps count) (hk : k.Ok) :
    Calls Tryz.prog 105 #[.pointer (some ⟨x, 0, none⟩), .int .i64 h, valV k] w fun e w' => e = .returned (.tuple #[valV (getP (stOf reps count) h k).1, .int .i64 (getP (stOf reps count) h k).2]) ∧ Below w.heap.size w w' := by
  obtain ⟨nb, vt, ht, hrow, hvc⟩ := H.tabs
  obtain ⟨c0, c1, c2, fz, lt⟩ := id ht
  have hne : ¬ x = w.heap.size := by omega
  have hne2 : ¬ x = w.heap.size + 1 := by omega
  have hcl : count ≤ 12 := by have := H.cnt; have := H.max; omega
  have hsl := stOf_len H.cnt
  by_cases hr : h < 0 ∨ (count : Int) ≤ h
  · have HV : Hid (getP (stOf reps count) h k = (nilV, 3)) := by show _ = _; unfold getP; rw [hsl, if_pos hr]
    obtain ⟨T, N, S⟩ := k
    rw [valV_mk]
    clear H hrow hvc ht
    have hr : h < 0 ∨ (0 ≤ h ∧ (count : Int) ≤ h) := by omega
    rcases hr with hr | ⟨hr0, hr⟩
    all_goals
      go_enter Tryz.func105, Tryz.ntmps105
      go_wp2
      refine bodyPost_ret (v := .tuple #[.agg #[.int .i64 0, .int .u64 0, .string ⟨#[]⟩], .int .i64 3]) (by simp [results, go_sem]) rfl ?_
      refine ⟨ret_vi' (by rw [HV.out]; rfl) (by rw [HV.out]), ?_⟩
      repeat (first | refine Below.setCell ?_ (Nat.le_add_right _ _) _ | refine below_drewN ?_ _)
      exact (below_one _ _).alloc (by simp) _
  have hr0 : 0 ≤ h := by omega
  have hr1 : h < (count : Int) := by omega
  have HW := fun w => wf_any k w hk
  by_cases hw : wfB k = false
  · have HV : Hid (getP (stOf reps count) h k = (nilV, 4)) := by show _ = _; unfold getP; rw [hsl, if_neg hr, if_pos hw]
    rw [hw] at HW
    obtain ⟨T, N, S⟩ := k
    rw [valV_mk] at HW ⊢
    clear H hrow hvc ht hr
    go_enter Tryz.func105, Tryz.ntmps105
    go_wp2_with fail
    refine (HW _).mono ?_; rintro e w1 ⟨rfl, hb⟩
    obtain ⟨v0, v1, hB⟩ := two_vals (k := ⟨T, N, S⟩) (z := nilV) hb
    obtain ⟨d0, d1, d2, z0, z1, z2⟩ := v1.cells
    have HB : Hid (Below w.heap.size w w1) := hB
    clear hb hB v0 v1
    go_wp2
    refine bodyPost_ret (v := .tuple #[.agg #[.int .i64 0, .int .u64 0, .string ⟨#[]⟩], .int .i64 4]) (by simp [results, go_sem, d0, d1, d2]) rfl ?_
    refine ⟨ret_vi' (by rw [HV.out]; rfl) (by rw [HV.out]), ?_⟩
    repeat (first | refine Below.setCell ?_ (Nat.le_add_right _ _) _ | refine below_drewN ?_ _)
    exact HB.out
  have hw : wfB k = true := by simpa using hw
  obtain ⟨i, rfl⟩ : ∃ i : Nat, h = (i : Int) := ⟨h.toNat, by omega⟩
  have hi : i < count := by omega
  obtain ⟨r, hr2, hst⟩ := stOf_at H.cnt hi
  have hrl : count ≤ reps.length := H.cnt
  obtain ⟨A, cap, rfl, hta⟩ := tabAt_of hrow hr2 (H.rep i r hr2).1
  have HV : Hid (getP (stOf reps count) i k = match idx r.t (oneV k) with
    | none => (nilV, 0)
    | some p => ((r.t[p]?.getD (nilV, nilV)).2, 0)) := by
    show _ = _
    unfold getP
    rw [hsl, if_neg hr, if_neg (by rw [hw]; decide), Int.toNat_natCast, hst]
    rfl
  rw [hw] at HW
  have HO := fun w (ht : TabsAt w x (.pointer (some ⟨nb, 0, none⟩)) (.slice (some ⟨A, 0, none⟩) reps.length cap) count) => one_any x nb _ count k w ht hk.N
  have HF := fun w (ht : TabAt own w A i r) => find_any own A i r (oneV k) w ht (wf_oneV hw) (N_oneV hk.N)
  rw [oneI_oneV] at HF
  have HORD : Hid (∀ p e, r.t[p]? = some e → ∃ g c, r.vo = .slice (some ⟨g, 0, none⟩) r.t.length c ∧ g < w.heap.size ∧ w.cell? ⟨g, p * 6 + 3, none⟩ = some (.int .i64 e.2.T) ∧ w.cell? ⟨g, p * 6 + 4, none⟩ = some (.int .u64 e.2.N) ∧ w.cell? ⟨g, p * 6 + 5, none⟩ = some (.string ⟨e.2.S.toArray⟩)) := by
    intro p e he
    have c := fun j hj => flat6 entC entC_len r.t p e he j hj
    obtain ⟨g, c', hv, _, hg, k3⟩ := row_cell hta.rep.ord (c 3 (by omega))
    obtain ⟨g4, c4', hv4, _, _, k4⟩ := row_cell hta.rep.ord (c 4 (by omega))
    obtain ⟨g5, c5', hv5, _, _, k5⟩ := row_cell hta.rep.ord (c 5 (by omega))
    rw [hv] at hv4 hv5
    cases hv4; cases hv5
    exact ⟨g, c', hv, hg, k3, k4, k5⟩
  have hlen32 : r.t.length ≤ 32 := hta.rep.inv.len
  generalize hkk : oneV k = kk at *
  generalize hI : oneI k = I at *
  obtain ⟨T, N, S⟩ := k
  obtain ⟨T', N', S'⟩ := kk
  simp only [valV_mk] at HW HO HF ⊢
  generalize hO : idx r.t ⟨T', N', S'⟩ = o at *
  have HT : Hid (TabsAt w x (.pointer (some ⟨nb, 0, none⟩)) (.slice (some ⟨A, 0, none⟩) reps.length cap) count) := ht
  have HA : Hid (TabAt own w A i r) := hta
  have hO' : ∀ p, o = some p → ∃ e, r.t[p]? = some e := fun p hp => by obtain ⟨e, he, _⟩ := idx_some (hO.trans hp); exact ⟨e, he⟩
  have HO' : Hid (∀ p, o = some p → ∃ e, r.t[p]? = some e) := hO'
  have lA := hta.lt
  generalize reps.length = rl at *
  clear H hrow hvc ht hr hw hk hr2 hst hkk hI hO hO' hta fz hsl
  go_enter Tryz.func105, Tryz.ntmps105
  go_wp2_with fail
  refine (HW _).mono ?_; rintro e w1 ⟨rfl, hb⟩
  obtain ⟨v0, v1, hB⟩ := two_vals (k := ⟨T, N, S⟩) (z := nilV) hb
  obtain ⟨c0, c1, c2, _, lt1⟩ := HT.out.below hB
  obtain ⟨k0, k1, k2, _⟩ := v0.cells
  have HB : Hid (Below w.heap.size w w1) := hB
  have HV0 : Hid (VB w1 w.heap.size ⟨T, N, S⟩) := v0
  have HV1 : Hid (VB w1 (w.heap.size + 1) nilV) := v1
  clear hb hB v0 v1 HW
  go_wp2_with fail
  refine (HO _ (HT.out.below HB.out)).mono ?_; rintro e w2 ⟨rfl, hb⟩
  have hB2 := below_two HB.out hb
  obtain ⟨k0, k1, k2, z0, z1, z2⟩ := (HV0.out.below hb).cells
  have HV1 : Hid (VB w2 (w.heap.size + 1) nilV) := HV1.out.below hb
  have HB2 : Hid (Below w.heap.size w w2) := hB2
  have HSZ : Hid (w.heap.size + 1 < w2.heap.size) := by
    have := HV1.out
    unfold VB at this
    show _ < _
    rcases Nat.lt_or_ge (w.heap.size + 1) w2.heap.size with c | c
    · exact c
    · rw [Array.getElem?_eq_none c] at this; cases this
  clear hb hB2 HV0 HO
  go_wp2_with fail
  have hB3 : Below w.heap.size w _ := below_set0 (below_set0 (below_set0 HB2.out 0 (.int .i64 T')) 1 (.int .u64 N')) 2 (.string ⟨S'.toArray⟩)
  have hV3 := ((HV1.out.set (p := ⟨w.heap.size, 0, none⟩) (by dsimp only; omega) (.int .i64 T')).set (p := ⟨w.heap.size, 1, none⟩) (by dsimp only; omega) (.int .u64 N')).set (p := ⟨w.heap.size, 2, none⟩) (by dsimp only; omega) (.string ⟨S'.toArray⟩)
  refine (HF _ (HA.out.below hB3)).mono ?_; rintro e w4 ⟨rfl, hb⟩
  have hB4 := below_two hB3 hb
  obtain ⟨d0, d1, d2, f0, f1, f2⟩ := (hV3.below hb).cells
  obtain ⟨a0, a1, a2, a3, a4, a5, _, lA4, _⟩ := HA.out.below hB4
  have HB4 : Hid (Below w.heap.size w w4) := hB4
  clear hb hB3 hV3 hB4 HF k0 k1 k2 z0 z1 z2 HSZ HB2 HV1 c0 c1 c2 lt1 a1 a2 a3 a4 a5
  cases o with
  | none =>
    simp only [plc]
    clear HORD HO' HA HT HB
    go_wp2
    refine bodyPost_ret (v := .tuple #[.agg #[.int .i64 0, .int .u64 0, .string ⟨#[]⟩], .int .i64 0]) (by simp [results, go_sem, d0, d1, d2]) rfl ?_
    refine ⟨ret_vi' (by rw [HV.out]; rfl) (by rw [HV.out]), ?_⟩
    repeat (first | refine Below.setCell ?_ (Nat.le_add_right _ _) _ | refine below_drewN ?_ _)
    exact HB4.out
  | some p =>
    obtain ⟨e, he⟩ := HO'.out p rfl
    obtain ⟨g, c, hv, hg, e3, e4, e5⟩ := HORD.out p e he
    have hp : p < r.t.length := (List.getElem?_eq_some_iff.1 he).1
    have HV : Hid (getP (stOf reps count) i ⟨T, N, S⟩ = (e.2, 0)) := HV.out.trans (by show ((r.t[p]?.getD (nilV, nilV)).2, (0 : Int)) = _; rw [he]; rfl)
    have e3 := (HB4.out.cell (p := ⟨g, p * 6 + 3, none⟩) hg).trans e3
    have e4 := (HB4.out.cell (p := ⟨g, p * 6 + 4, none⟩) hg).trans e4
    have e5 := (HB4.out.cell (p := ⟨g, p * 6 + 5, none⟩) hg).trans e5
    rw [hv] at a0
    obtain ⟨ek, ⟨eT, eN, eS⟩⟩ := e
    simp only at *
    simp only [plc]
    generalize r.t.length = tl at *
    clear HORD HO' HA HT HB he hv
    go_wp2
    refine bodyPost_ret (v := .tuple #[.agg #[.int .i64 eT, .int .u64 eN, .string ⟨eS.toArray⟩], .int .i64 0]) (by simp [results, go_sem, d0, d1, d2]) rfl ?_
    refine ⟨ret_vi' (by rw [HV.out]; rfl) (by rw [HV.out]), ?_⟩
    repeat (first | refine Below.setCell ?_ (Nat.le_add_right _ _) _ | refine below_drewN ?_ _)
    exact HB4.out
end Go.Proofs.Qxb6500293aGreatRR
