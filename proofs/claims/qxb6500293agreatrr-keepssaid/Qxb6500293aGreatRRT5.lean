import Derived.Test.Qxb6500293aGreatRRT4
namespace Go.Proofs.Qxb6500293aGreatRR
open Go.RowKit
open Ieee (double)
set_option linter.unusedVariables false
set_option linter.unusedSimpArgs false

/-- The struct of all tables: the number layer, the arena, the count. -/
structure TabsAt (w : World) (x : Nat) (np vt : Value) (count : Nat) : Prop where
  c0 : w.cell? ⟨x, 0, none⟩ = some np
  c1 : w.cell? ⟨x, 1, none⟩ = some vt
  c2 : w.cell? ⟨x, 2, none⟩ = some (.int .i64 count)
  fz : ∀ j, w.frozen? ⟨x, j, none⟩ = false
  lt : x < w.heap.size
theorem below_set0 {B : Nat} {a w : World} (h : Below B a w) (j : Nat) (v : Value) : Below B a (w.setCell ⟨B, j, none⟩ v) := h.setCell (p := ⟨B, j, none⟩) (Nat.le_refl _) v
theorem ret_vi {k : V} {i i' : Int} {v : Value} (h1 : v = valV k) (h2 : i = i') : Ending.returned (.tuple #[v, .int .i64 i]) = .returned (.tuple #[valV k, .int .i64 i']) := by rw [h1, h2]

set_option maxRecDepth 8000 in
set_option maxHeartbeats 3200000 in
theorem one_any (x nb : Nat) (vt : Value) (count : Nat) (k : V) (w : World) (ht : TabsAt w x (.pointer (some ⟨nb, 0, none⟩)) vt count) (hN : k.N < 18446744073709551616) :
    Calls Tryz.prog 70 #[.pointer (some ⟨x, 0, none⟩), valV k] w fun e w' => e = .returned (.tuple #[valV (oneV k), .int .i64 (oneI k)]) ∧ Below w.heap.size w w' := by
  obtain ⟨c0, c1, c2, fz, lt⟩ := ht
  have hne : ¬ x = w.heap.size := by omega
  have hne2 : ¬ x = w.heap.size + 1 := by omega
  by_cases k2 : k.T = 2
  · have h1 := oneV_eq hN k2
    have h2 : oneI k = toIntV k.N := by unfold oneI; rw [if_pos k2]
    have H := fun w => toInt_R (.pointer (some ⟨nb, 0, none⟩)) k.N w hN
    have hb : toIntB k.N = false → toIntV k.N = 0 := by
      intro h
      unfold toIntB at h
      unfold toIntV
      rw [if_neg (of_decide_eq_false h)]
    rw [h2]
    clear h2
    obtain ⟨T, N, S⟩ := k
    simp only at *
    subst k2
    generalize toIntV N = I at *
    rcases (by cases toIntB N <;> simp : toIntB N = false ∨ toIntB N = true) with hB | hB
    · have hI := hb hB
      rw [hB] at H
      rw [if_neg (by rw [hB]; intro h; cases h.1)] at h1
      rw [h1]
      clear hb hB h1
      subst hI
      rw [valV_mk]
      go_enter Tryz.func70, Tryz.ntmps70
      go_wp2
      go_quiet ((go_at_call 65; exact Calls.quiet_of_same (H _)))
      go_wp2
      refine bodyPost_ret (v := .tuple #[.agg #[.int .i64 2, .int .u64 N, .string ⟨S.toArray⟩], .int .i64 0]) (by simp [results, go_sem]) rfl ?_
      refine ⟨rfl, ?_⟩
      repeat (first | refine Below.setCell ?_ (Nat.le_add_right _ _) _ | refine below_drewN ?_ _)
      exact (below_one _ _).alloc (by simp) _
    · rw [hB] at H
      clear hb
      by_cases hI : I = 0
      · rw [if_pos ⟨hB, hI⟩] at h1
        rw [h1]
        clear h1 hB
        subst hI
        rw [valV_mk, valV_mk]
        go_enter Tryz.func70, Tryz.ntmps70
        go_wp2
        go_quiet ((go_at_call 65; exact Calls.quiet_of_same (H _)))
        go_wp2
        refine bodyPost_ret (v := .tuple #[.agg #[.int .i64 2, .int .u64 0, .string ⟨S.toArray⟩], .int .i64 0]) (by simp [results, go_sem]) rfl ?_
        refine ⟨rfl, ?_⟩
        repeat (first | refine Below.setCell ?_ (Nat.le_add_right _ _) _ | refine below_set0 ?_ _ _ | refine below_drewN ?_ _)
        exact (below_one _ _).alloc (by simp) _
      · rw [if_neg (fun h => hI h.2)] at h1
        rw [h1]
        have bI : (I == 0) = false := by simpa using hI
        clear h1 hB hI
        rw [valV_mk]
        go_enter Tryz.func70, Tryz.ntmps70
        go_wp2
        go_quiet ((go_at_call 65; exact Calls.quiet_of_same (H _)))
        go_wp2
        refine bodyPost_ret (v := .tuple #[.agg #[.int .i64 2, .int .u64 N, .string ⟨S.toArray⟩], .int .i64 I]) (by simp [results, go_sem]) rfl ?_
        refine ⟨rfl, ?_⟩
        repeat (first | refine Below.setCell ?_ (Nat.le_add_right _ _) _ | refine below_drewN ?_ _)
        exact (below_one _ _).alloc (by simp) _
  · have h1 : oneV k = k := by unfold oneV; rw [if_neg (fun h => k2 h.1)]
    have h2 : oneI k = 0 := by unfold oneI; rw [if_neg k2]
    rw [h1, h2]
    obtain ⟨T, N, S⟩ := k
    simp only at *
    have b2 : (T != 2) = true := by simpa using k2
    clear h1 h2 k2
    rw [valV_mk]
    go_enter Tryz.func70, Tryz.ntmps70
    go_wp2
    refine bodyPost_ret (v := .tuple #[.agg #[.int .i64 T, .int .u64 N, .string ⟨S.toArray⟩], .int .i64 0]) (by simp [results, go_sem]) rfl ?_
    refine ⟨rfl, ?_⟩
    repeat (first | refine Below.setCell ?_ (Nat.le_add_right _ _) _ | refine below_drewN ?_ _)
    exact (below_one _ _).alloc (by simp) _

theorem flat6 {α : Type} (f : α → List Value) (hf : ∀ a, (f a).length = 6) : ∀ (l : List α) (h : Nat) (a : α), l[h]? = some a → ∀ j, j < 6 → (l.flatMap f)[h * 6 + j]? = (f a)[j]?
  | [], h, a, hl, j, hj => by simp at hl
  | b :: l, 0, a, hl, j, hj => by
    simp at hl
    subst hl
    rw [List.flatMap_cons, List.getElem?_append_left (by rw [hf]; omega)]
    simp
  | b :: l, h + 1, a, hl, j, hj => by
    simp at hl
    rw [List.flatMap_cons, List.getElem?_append_right (by rw [hf]; omega), hf, show (h + 1) * 6 + j - 6 = h * 6 + j from by omega]
    exact flat6 f hf l h a hl j hj
theorem tabC_len (r : TabR) : (tabC r).length = 6 := rfl
theorem entC_len (e : V × V) : (entC e).length = 6 := rfl
theorem row_frozen {w : World} {e : TypeId} {sz n : Nat} {g c : Nat} {xs : List Value} (h : w.ownsRow 0 e sz (.slice (some ⟨g, 0, none⟩) n c) n xs) (j : Nat) : w.frozen? ⟨g, j, none⟩ = false := by
  rcases h.2 with ⟨h1, _⟩ | ⟨g', cap, cur, h1, hb, hgg, _⟩
  · cases h1
  · cases h1
    simp [World.frozen?, hgg]

/-- ALL TABLES OF THE REAL SIDE. -/
structure RealAt (own : Nat → Nat) (w : World) (x : Nat) (reps : List TabR) (count : Nat) : Prop where
  tabs : ∃ nb vt, TabsAt w x (.pointer (some ⟨nb, 0, none⟩)) vt count ∧ w.ownsRow 0 105 6 vt reps.length (reps.flatMap tabC) ∧ (∀ g, vt.ownBlock = some g → own g = 2)
  xc : own x = 1
  rep : ∀ h r, reps[h]? = some r → RepAt own w h r ∧ Closed r.t r.a
  cnt : count ≤ reps.length
  max : reps.length ≤ 12
  wiped : ∀ h r, reps[h]? = some r → count ≤ h → r.t = [] ∧ r.a = []
def stOf (reps : List TabR) (count : Nat) : List Tbl := (reps.take count).map (·.t)
theorem stOf_at {reps : List TabR} {count h : Nat} (hc : count ≤ reps.length) (hh : h < count) : ∃ r, reps[h]? = some r ∧ (stOf reps count)[h]? = some r.t := by
  have : h < reps.length := by omega
  refine ⟨reps[h], List.getElem?_eq_getElem this, ?_⟩
  unfold stOf
  rw [List.getElem?_map, List.getElem?_take, if_pos hh, List.getElem?_eq_getElem this]
  rfl
theorem stOf_len {reps : List TabR} {count : Nat} (hc : count ≤ reps.length) : (stOf reps count).length = count := by
  unfold stOf; simp; omega
theorem tabAt_of {own : Nat → Nat} {w : World} {vt : Value} {reps : List TabR} (h : w.ownsRow 0 105 6 vt reps.length (reps.flatMap tabC)) {i : Nat} {r : TabR} (hr : reps[i]? = some r) (hrep : RepAt own w i r) :
    ∃ A cap, vt = .slice (some ⟨A, 0, none⟩) reps.length cap ∧ TabAt own w A i r := by
  have c := fun j hj => flat6 tabC tabC_len reps i r hr j hj
  obtain ⟨A, cap, hv, hc, hg, k0⟩ := row_cell h (c 0 (by omega))
  have kk : ∀ j, j < 6 → ∀ x, (tabC r)[j]? = some x → w.cell? ⟨A, i * 6 + j, none⟩ = some x := by
    intro j hj x hx
    obtain ⟨A', cap', hv', _, _, k1⟩ := row_cell h ((c j hj).trans hx)
    rw [hv] at hv'
    cases hv'
    exact k1
  refine ⟨A, cap, hv, ⟨kk 0 (by omega) _ rfl, kk 1 (by omega) _ rfl, kk 2 (by omega) _ rfl, kk 3 (by omega) _ rfl, kk 4 (by omega) _ rfl, kk 5 (by omega) _ rfl, ?_, hg, hrep⟩⟩
  intro j
  rw [hv] at h
  exact row_frozen h j
theorem TabsAt.kept {w w' : World} {x : Nat} {np vt : Value} {count : Nat} (h : TabsAt w x np vt count) (e : w'.heap[x]? = w.heap[x]?) (hs : w.heap.size ≤ w'.heap.size) : TabsAt w' x np vt count := by
  obtain ⟨c0, c1, c2, fz, lt⟩ := h
  have hc : ∀ j, w'.cell? ⟨x, j, none⟩ = w.cell? ⟨x, j, none⟩ := fun j => World.cell?_of_block (a := ⟨x, j, none⟩) e
  have hf : ∀ j, w'.frozen? ⟨x, j, none⟩ = w.frozen? ⟨x, j, none⟩ := fun j => World.frozen?_of_block (a := ⟨x, j, none⟩) e
  exact ⟨(hc 0).trans c0, (hc 1).trans c1, (hc 2).trans c2, fun j => (hf j).trans (fz j), by omega⟩
theorem TabsAt.below {w w' : World} {x : Nat} {np vt : Value} {count : Nat} (h : TabsAt w x np vt count) (hb : Below w.heap.size w w') : TabsAt w' x np vt count := h.kept (hb.block _ h.lt) hb.size
theorem TabAt.below {own : Nat → Nat} {w w' : World} {A h : Nat} {r : TabR} (H : TabAt own w A h r) (hb : Below w.heap.size w w') : TabAt own w' A h r := by
  obtain ⟨c0, c1, c2, c3, c4, c5, fz, lt, rep⟩ := H
  have hc : ∀ j, w'.cell? ⟨A, j, none⟩ = w.cell? ⟨A, j, none⟩ := fun j => hb.cell (p := ⟨A, j, none⟩) lt
  have hf : ∀ j, w'.frozen? ⟨A, j, none⟩ = w.frozen? ⟨A, j, none⟩ := fun j => World.frozen?_of_block (a := ⟨A, j, none⟩) (hb.block _ lt)
  exact ⟨(hc _).trans c0, (hc _).trans c1, (hc _).trans c2, (hc _).trans c3, (hc _).trans c4, (hc _).trans c5, fun j => (hf j).trans (fz j), by have := hb.size; omega, rep.below hb⟩
theorem RealAt.below {own : Nat → Nat} {w w' : World} {x : Nat} {reps : List TabR} {count : Nat} (H : RealAt own w x reps count) (hb : Below w.heap.size w w') : RealAt own w' x reps count := by
  obtain ⟨nb, vt, h1, h2, h3⟩ := H.tabs
  exact ⟨⟨nb, vt, h1.below hb, ownsRow_block h2 (fun g hg => hb.block g (ownsRow_lt h2 g hg)), h3⟩, H.xc, fun h r hr => ⟨(H.rep h r hr).1.below hb, (H.rep h r hr).2⟩, H.cnt, H.max, H.wiped⟩

/-- A value in a block of its own. -/
def VB (w : World) (b : Nat) (v : V) : Prop := w.heap[b]? = some (.cells #[.int .i64 v.T, .int .u64 v.N, .string ⟨v.S.toArray⟩] 33)
theorem VB.cells {w : World} {b : Nat} {v : V} (h : VB w b v) : w.cell? ⟨b, 0, none⟩ = some (.int .i64 v.T) ∧ w.cell? ⟨b, 1, none⟩ = some (.int .u64 v.N) ∧ w.cell? ⟨b, 2, none⟩ = some (.string ⟨v.S.toArray⟩) ∧
    w.frozen? ⟨b, 0, none⟩ = false ∧ w.frozen? ⟨b, 1, none⟩ = false ∧ w.frozen? ⟨b, 2, none⟩ = false := by
  unfold VB at h
  simp [World.cell?, World.frozen?, h]
theorem VB.below {w w' : World} {b : Nat} {v : V} (h : VB w b v) (hb : Below w.heap.size w w') : VB w' b v := by
  unfold VB at *
  rw [hb.block b (by rcases Nat.lt_or_ge b w.heap.size with c | c; exact c; rw [Array.getElem?_eq_none c] at h; cases h)]
  exact h
theorem VB.new (w : World) (v : V) : VB (w.alloc (.cells #[.int .i64 v.T, .int .u64 v.N, .string ⟨v.S.toArray⟩] 33)) w.heap.size v := by
  unfold VB
  show (w.heap.push _)[_]? = _
  simp
theorem VB.alloc {w : World} {b : Nat} {v : V} (h : VB w b v) (o : Obj) : VB (w.alloc o) b v := h.below (below_one w o)
theorem oneI_oneV (k : V) : oneI (oneV k) = oneI k := by
  unfold oneV
  by_cases c : k.T = 2 ∧ k.N = 9223372036854775808
  · rw [if_pos c]
    unfold oneI
    rw [if_pos c.1]
    simp only [c.1, if_true, c.2]
    decide +kernel
  · rw [if_neg c]
theorem wf_oneV {k : V} (h : wfB k = true) : wfB (oneV k) = true := by
  unfold oneV
  by_cases c : k.T = 2 ∧ k.N = 9223372036854775808
  · rw [if_pos c]
    have hS := (wf_other h (by rw [c.1]; decide)).1
    obtain ⟨T, N, S⟩ := k
    simp only at *
    obtain ⟨rfl, rfl⟩ := c
    subst hS
    decide
  · rw [if_neg c]; exact h
theorem N_oneV {k : V} (h : k.N < 18446744073709551616) : (oneV k).N < 18446744073709551616 := by
  unfold oneV
  by_cases c : k.T = 2 ∧ k.N = 9223372036854775808
  · rw [if_pos c]; show 0 < _; decide
  · rw [if_neg c]; exact h
/-- What Get answers. -/
def getP (st : List Tbl) (h : Int) (k : V) : V × Int :=
  if h < 0 ∨ (st.length : Int) ≤ h then (nilV, 3)
  else if wfB k = false then (nilV, 4)
  else match idx (st[h.toNat]?.getD []) (oneV k) with
    | none => (nilV, 0)
    | some p => (((st[h.toNat]?.getD [])[p]?.getD (nilV, nilV)).2, 0)
end Go.Proofs.Qxb6500293aGreatRR
