import Derived.Test.Qxb6500293aGreatRRT18
namespace Go.Proofs.Qxb6500293aGreatRR
open Go.RowKit Go.Shelf
set_option linter.unusedVariables false
set_option linter.unusedSimpArgs false
attribute [local go_sem] Oper.semAt_some

/-- What Next answers. -/
def nextP (st : List Tbl) (h : Int) (k : V) : V × V × Int :=
  if h < 0 ∨ (st.length : Int) ≤ h then (nilV, nilV, 3)
  else if wfB k = false then (nilV, nilV, 4)
  else if k.T ≠ 0 ∧ idx (st[h.toNat]?.getD []) (oneV k) = none then (nilV, nilV, 7)
  else match (items (st[h.toNat]?.getD []) (if k.T = 0 then 0 else ((idx (st[h.toNat]?.getD []) (oneV k)).getD 0 + 1)) false (st[h.toNat]?.getD []).length).head? with
    | some p => (((st[h.toNat]?.getD [])[p]?.getD dE).1, ((st[h.toNat]?.getD [])[p]?.getD dE).2, 0)
    | none => (nilV, nilV, 0)
theorem ret_vvi {a b : Value} {i : Int} {o : V × V × Int} (h1 : a = valV o.1) (h2 : b = valV o.2.1) (h3 : i = o.2.2) : Ending.returned (.tuple #[a, b, .int .i64 i]) = .returned (.tuple #[valV o.1, valV o.2.1, .int .i64 o.2.2]) := by rw [h1, h2, h3]

/-- The world behind Next's own variables: the key, the two results, the error. -/
abbrev nW (w : World) (k : V) : World := (((w.alloc (.cells #[.int .i64 k.T, .int .u64 k.N, .string ⟨k.S.toArray⟩] 33)).alloc (.cells #[.int .i64 0, .int .u64 0, .string ⟨#[]⟩] 33)).alloc (.cells #[.int .i64 0, .int .u64 0, .string ⟨#[]⟩] 33)).alloc (.cells #[.int .i64 0] 39)
theorem nW_below (w : World) (k : V) : Below w.heap.size w (nW w k) := below_two (below_two (below_two (below_one _ _) (below_one _ _)) (below_one _ _)) (below_one _ _)
/-- Next's own variables as they stand. -/
structure NV (w W : World) (k : V) : Prop where
  k0 : VB W w.heap.size k
  r0 : VB W (w.heap.size + 1) nilV
  r1 : VB W (w.heap.size + 1 + 1) nilV
  e0 : W.heap[w.heap.size + 1 + 1 + 1]? = some (.cells #[.int .i64 0] 39)
theorem NV.new (w : World) (k : V) : NV w (nW w k) k := by
  obtain ⟨p0, p1, p2, p3⟩ := push4 (w := w.heap) (.cells #[.int .i64 k.T, .int .u64 k.N, .string ⟨k.S.toArray⟩] 33) (.cells #[.int .i64 0, .int .u64 0, .string ⟨#[]⟩] 33) (.cells #[.int .i64 0, .int .u64 0, .string ⟨#[]⟩] 33) (.cells #[.int .i64 0] 39)
  exact ⟨p0, p1, p2, p3⟩
theorem NV.lt {w W : World} {k : V} (h : NV w W k) : w.heap.size + 4 ≤ W.heap.size := by
  have := (Array.getElem?_eq_some_iff.1 h.e0).1; omega
theorem NV.below {w W W' : World} {k : V} (h : NV w W k) (hb : Below W.heap.size W W') : NV w W' k :=
  ⟨h.k0.below hb, h.r0.below hb, h.r1.below hb, (hb.block _ (by have := h.lt; omega)).trans h.e0⟩
theorem NV.cells {w W : World} {k : V} (h : NV w W k) : (W.cell? ⟨w.heap.size + 1, 0, none⟩ = some (.int .i64 0) ∧ W.cell? ⟨w.heap.size + 1, 1, none⟩ = some (.int .u64 0) ∧ W.cell? ⟨w.heap.size + 1, 2, none⟩ = some (.string ⟨#[]⟩) ∧
    W.frozen? ⟨w.heap.size + 1, 0, none⟩ = false ∧ W.frozen? ⟨w.heap.size + 1, 1, none⟩ = false ∧ W.frozen? ⟨w.heap.size + 1, 2, none⟩ = false) ∧ (W.cell? ⟨w.heap.size + 1 + 1, 0, none⟩ = some (.int .i64 0) ∧ W.cell? ⟨w.heap.size + 1 + 1, 1, none⟩ = some (.int .u64 0) ∧ W.cell? ⟨w.heap.size + 1 + 1, 2, none⟩ = some (.string ⟨#[]⟩) ∧
    W.frozen? ⟨w.heap.size + 1 + 1, 0, none⟩ = false ∧ W.frozen? ⟨w.heap.size + 1 + 1, 1, none⟩ = false ∧ W.frozen? ⟨w.heap.size + 1 + 1, 2, none⟩ = false) ∧ W.cell? ⟨w.heap.size + 1 + 1 + 1, 0, none⟩ = some (.int .i64 0) ∧ W.frozen? ⟨w.heap.size + 1 + 1 + 1, 0, none⟩ = false := by
  refine ⟨h.r0.cells, h.r1.cells, ?_, ?_⟩
  · simp [World.cell?, h.e0]
  · simp [World.frozen?, h.e0]

set_option maxRecDepth 8000 in
set_option maxHeartbeats 3200000 in
theorem next_errs (own : Nat → Nat) (x : Nat) (reps : List TabR) (count : Nat) (h : Int) (k : V) (w : World) (H : RealAt own w x reps count) (hk : k.Ok) (hE : (h < 0 ∨ (count : Int) ≤ h) ∨ wfB k = false) :
    Calls Tryz.prog 115 #[.pointer (some ⟨x, 0, none⟩), .int .i64 h, valV k] w fun e w' => e = .returned (.tuple #[valV (nextP (stOf reps count) h k).1, valV (nextP (stOf reps count) h k).2.1, .int .i64 (nextP (stOf reps count) h k).2.2]) ∧ Below w.heap.size w w' := by
  obtain ⟨nb, vt, ht, hrow, hvc⟩ := H.tabs
  obtain ⟨c0, c1, c2, fz, lt⟩ := id ht
  have hcl : count ≤ 12 := by have := H.cnt; have := H.max; omega
  have hsl := stOf_len H.cnt
  by_cases hr : h < 0 ∨ (count : Int) ≤ h
  · have HV : Hid (nextP (stOf reps count) h k = (nilV, nilV, 3)) := by show _ = _; unfold nextP; rw [hsl, if_pos hr]
    obtain ⟨T, N, S⟩ := k
    rw [valV_mk]
    have hX := ht.below (nW_below w ⟨T, N, S⟩)
    obtain ⟨x0, x1, x2, _, _⟩ := hX
    clear H hrow hvc ht hE
    have hr : h < 0 ∨ (0 ≤ h ∧ (count : Int) ≤ h) := by omega
    rcases hr with hr | ⟨hr0, hr⟩
    all_goals
      go_enter Tryz.func115, Tryz.ntmps115
      go_wp2
      refine bodyPost_ret (v := .tuple #[.agg #[.int .i64 0, .int .u64 0, .string ⟨#[]⟩], .agg #[.int .i64 0, .int .u64 0, .string ⟨#[]⟩], .int .i64 3]) (by simp [results, go_sem]) rfl ?_
      refine ⟨ret_vvi (by rw [HV.out]; rfl) (by rw [HV.out]; rfl) (by rw [HV.out]), ?_⟩
      repeat (first | refine Below.setCell ?_ (Nat.le_add_right _ _) _ | refine Below.setCell ?_ (Nat.le_trans (Nat.le_add_right _ _) (Nat.le_add_right _ _)) _ | refine below_drewN ?_ _)
      exact below_two (below_two (below_two (below_one _ _) (below_one _ _)) (below_one _ _)) (below_one _ _)
  have hr0 : 0 ≤ h := by omega
  have hr1 : h < (count : Int) := by omega
  have hw : wfB k = false := hE.resolve_left hr
  have HW := fun w => wf_any k w hk
  rw [hw] at HW
  have HV : Hid (nextP (stOf reps count) h k = (nilV, nilV, 4)) := by show _ = _; unfold nextP; rw [hsl, if_neg hr, if_pos hw]
  have hX := ht.below (nW_below w k)
  obtain ⟨x0, x1, x2, _, _⟩ := hX
  have HNV : Hid (NV w (nW w k) k) := NV.new w k
  obtain ⟨T, N, S⟩ := k
  simp only [valV_mk] at *
  clear H hrow hvc ht hE hr hw hk
  go_enter Tryz.func115, Tryz.ntmps115
  go_wp2_with fail
  refine (HW _).mono ?_; rintro e w1 ⟨rfl, hb⟩
  have hB := below_two (nW_below w ⟨T, N, S⟩) hb
  obtain ⟨⟨d0, d1, d2, z0, z1, z2⟩, ⟨d3, d4, d5, z3, z4, z5⟩, d6, z6⟩ := (HNV.out.below hb).cells
  have HB : Hid (Below w.heap.size w w1) := hB
  clear hb hB
  go_wp2
  refine bodyPost_ret (v := .tuple #[.agg #[.int .i64 0, .int .u64 0, .string ⟨#[]⟩], .agg #[.int .i64 0, .int .u64 0, .string ⟨#[]⟩], .int .i64 4]) (by simp [results, go_sem, d0, d1, d2, d3, d4, d5, d6]) rfl ?_
  refine ⟨ret_vvi (by rw [HV.out]; rfl) (by rw [HV.out]; rfl) (by rw [HV.out]), ?_⟩
  repeat (first | refine Below.setCell ?_ (Nat.le_add_right _ _) _ | refine Below.setCell ?_ (Nat.le_trans (Nat.le_add_right _ _) (Nat.le_add_right _ _)) _ | refine Below.setCell ?_ (Nat.le_trans (Nat.le_trans (Nat.le_add_right _ _) (Nat.le_add_right _ _)) (Nat.le_add_right _ _)) _)
  exact HB.out
end Go.Proofs.Qxb6500293aGreatRR
