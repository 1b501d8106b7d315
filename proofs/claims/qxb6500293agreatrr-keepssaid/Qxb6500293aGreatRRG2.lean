/-
  New 10, Ground 9, Fresh 4: a new machine over a new ground.
-/
import Derived.Test.Qxb6500293aGreatRRG1
import Derived.Test.Qxb6500293aGreatRRL2
import Derived.Test.Qxb6500293aGreatRRZ7
namespace Go.Proofs.Qxb6500293aGreatRR
open Go.RowKit
open Ieee (double)
set_option linter.unusedVariables false
set_option linter.unusedSimpArgs false

abbrev z5 : List Value := [.int .i64 0, .int .i64 0, .slice none 0 0, .slice none 0 0, .slice none 0 0]
abbrev thO : Obj := .cells (z5 ++ z5 ++ z5 ++ z5 ++ z5).toArray 66
abbrev vmO (nb tp a : Nat) : Obj := .cells #[.pointer (some ⟨nb, 0, none⟩), .pointer (some ⟨tp, 0, none⟩), .slice none 0 0, .slice none 0 0, .slice none 0 0, .slice none 0 0, .slice none 0 0, .slice none 0 0, .slice none 0 0, .slice (some ⟨a, 0, none⟩) 0 5, .int .i64 0, .slice none 0 0, .int .i64 21] 61
theorem Tryz.t66z : (Tryz.prog.info? 66).map (fun i => (i.zero, i.size, i.bytes)) = some (some (.agg #[.int .i64 0, .int .i64 0, .slice none 0 0, .slice none 0 0, .slice none 0 0]), 5, 88) := by kernel_rfl
set_option maxRecDepth 8000 in
set_option maxHeartbeats 1000000 in
theorem vmNew_any (nb tp : Nat) (w : World) : Calls Tryz.prog 10 #[.pointer (some ⟨nb, 0, none⟩), .pointer (some ⟨tp, 0, none⟩)] w fun e w' => e = .returned (.pointer (some ⟨w.heap.size + 1, 0, none⟩)) ∧ w' = (w.alloc thO).alloc (vmO nb tp w.heap.size) := by
  obtain ⟨i0, hi, hz0, hz1, hz2⟩ := info_parts Tryz.t66z
  have hm := fun w => run_make (P := Tryz.prog) w 58 66 i0 (.agg #[.int .i64 0, .int .i64 0, .slice none 0 0, .slice none 0 0, .slice none 0 0]) Tryz.underlying58 hi hz0 .i64 .i64 0 5 (by omega) (by omega) (by rw [hz2]; omega) (by omega)
  have ht : madeCells #[.int .i64 0, .int .i64 0, .slice none 0 0, .slice none 0 0, .slice none 0 0] 25 = (z5 ++ z5 ++ z5 ++ z5 ++ z5).toArray := by kernel_rfl
  have HT : Hid (madeCells #[.int .i64 0, .int .i64 0, .slice none 0 0, .slice none 0 0, .slice none 0 0] 25 = (z5 ++ z5 ++ z5 ++ z5 ++ z5).toArray) := ht
  clear ht
  go_enter Tryz.func10, Tryz.ntmps10
  go_wp2
  go_ret
  exact ⟨rfl, by rw [HT.out]⟩
theorem tabNew_any (nb : Nat) (w : World) : Calls Tryz.prog 20 #[.pointer (some ⟨nb, 0, none⟩)] w fun e w' => e = .returned (.pointer (some ⟨w.heap.size, 0, none⟩)) ∧ w' = w.alloc (.cells #[.pointer (some ⟨nb, 0, none⟩), .slice none 0 0, .int .i64 0] 98) := by
  go_enter Tryz.func20, Tryz.ntmps20
  go_wp2
  go_ret
  exact ⟨rfl, rfl⟩
/-- The machine's blocks, made anew. -/
theorem vm_new {w : World} {nb b tp a m : Nat} (hnb : NumW nb b w) (htp : w.heap[tp]? = some (.cells #[.pointer (some ⟨nb, 0, none⟩), .slice none 0 0, .int .i64 0] 98)) (ha : w.heap[a]? = some thO) (hm : w.heap[m]? = some (vmO nb tp a)) (h1 : nb ≠ b) (h2 : tp ≠ nb) (h3 : tp ≠ b) (h4 : a ≠ nb) (h5 : a ≠ b) (h6 : a ≠ tp) (h7 : m ≠ nb) (h8 : m ≠ b) (h9 : m ≠ tp) (h10 : m ≠ a) :
    Vm (fun k => if k = m then 400 else if k = a then 440 else if k = tp then 1 else if k = nb then 441 else if k = b then 442 else 0) w m a nb tp mt := by
  obtain ⟨own, hown⟩ : ∃ own : Nat → Nat, own = fun k => if k = m then 400 else if k = a then 440 else if k = tp then 1 else if k = nb then 441 else if k = b then 442 else 0 := ⟨_, rfl⟩
  rw [← hown]
  have om : own m = 400 := by rw [hown]; exact if_pos rfl
  have oa : own a = 440 := by rw [hown]; exact (if_neg h10.symm).trans (if_pos rfl)
  have ot : own tp = 1 := by rw [hown]; exact (if_neg h9.symm).trans ((if_neg h6.symm).trans (if_pos rfl))
  have on : own nb = 441 := by rw [hown]; exact (if_neg h7.symm).trans ((if_neg h4.symm).trans ((if_neg h2.symm).trans (if_pos rfl)))
  have ob : own b = 442 := by rw [hown]; exact (if_neg h8.symm).trans ((if_neg h5.symm).trans ((if_neg h3.symm).trans ((if_neg h1.symm).trans (if_pos rfl))))
  have lm := heap_lt hm
  have la := heap_lt ha
  have lt := heap_lt htp
  have hfar : ∀ k, w.heap.size ≤ k → own k = 0 := by
    intro k hk
    obtain ⟨g1, g2, bs, g3, g4⟩ := hnb
    have l1 : nb < w.heap.size := (Array.getElem?_eq_some_iff.1 g1).1
    have l2 : b < w.heap.size := g3.lt
    rw [hown]
    show (if k = m then 400 else _) = 0
    rw [if_neg (by omega), if_neg (by omega), if_neg (by omega), if_neg (by omega), if_neg (by omega)]
  have ht : TabsAt w tp (.pointer (some ⟨nb, 0, none⟩)) (.slice none 0 0) 0 := ⟨by simp [World.cell?, htp], by simp [World.cell?, htp], by simp [World.cell?, htp], fun j => by simp [World.frozen?, htp], lt⟩
  have hr : RS own w tp [] := ⟨[], 0, ⟨⟨nb, .slice none 0 0, ht, World.ownsRow_nil _ _ _ _, (fun g hg => by cases hg)⟩, ot, (fun h r hr => by simp at hr), by simp, by simp, (fun h r hr => by simp at hr)⟩, rfl⟩
  clear hown
  refine ⟨fun _ => .slice none 0 0, List.replicate 5 dT, ⟨⟨_, hm, rfl⟩, ⟨_, ha, rfl⟩, ?_, ?_, ?_, ?_, ?_, ?_, ?_, om, oa, rfl, rfl, hr, hfar, ⟨b, hnb, on, ob⟩⟩⟩
  · rw [box_cell hm]; rfl
  · rw [box_cell hm]; rfl
  · rw [box_cell hm]; rfl
  · rw [box_cell hm]; rfl
  · rw [box_cell hm]; rfl
  · intro i hi
    rcases (by omega : i = 0 ∨ i = 1 ∨ i = 2 ∨ i = 3 ∨ i = 4) with rfl | rfl | rfl | rfl | rfl <;> exact ⟨by rw [box_cell ha]; rfl, by rw [box_cell ha]; rfl⟩
  · intro j hj
    refine ⟨?_, ?_, fun b hb => by cases hb⟩
    · unfold locM
      rcases (by omega : j = 0 ∨ j = 1 ∨ j = 2 ∨ j = 3 ∨ j = 4 ∨ j = 5 ∨ j = 6 ∨ j = 7 ∨ j = 8 ∨ j = 9 ∨ j = 10 ∨ j = 11 ∨ j = 12 ∨ j = 13 ∨ j = 14 ∨ j = 15 ∨ j = 16 ∨ j = 17 ∨ j = 18 ∨ j = 19 ∨ j = 20 ∨ j = 21 ∨ j = 22) with rfl | rfl | rfl | rfl | rfl | rfl | rfl | rfl | rfl | rfl | rfl | rfl | rfl | rfl | rfl | rfl | rfl | rfl | rfl | rfl | rfl | rfl | rfl
      all_goals first
        | (show w.cell? ⟨m, _, none⟩ = _; rw [box_cell hm]; rfl)
        | (show w.cell? ⟨a, _, none⟩ = _; rw [box_cell ha]; rfl)
    · have e : (rowM mt (List.replicate 5 dT) j).n = 0 ∧ (rowM mt (List.replicate 5 dT) j).xs = [] := by
        rcases (by omega : j = 0 ∨ j = 1 ∨ j = 2 ∨ j = 3 ∨ j = 4 ∨ j = 5 ∨ j = 6 ∨ j = 7 ∨ j = 8 ∨ j = 9 ∨ j = 10 ∨ j = 11 ∨ j = 12 ∨ j = 13 ∨ j = 14 ∨ j = 15 ∨ j = 16 ∨ j = 17 ∨ j = 18 ∨ j = 19 ∨ j = 20 ∨ j = 21 ∨ j = 22) with rfl | rfl | rfl | rfl | rfl | rfl | rfl | rfl | rfl | rfl | rfl | rfl | rfl | rfl | rfl | rfl | rfl | rfl | rfl | rfl | rfl | rfl | rfl <;> exact ⟨rfl, rfl⟩
      rw [e.1, e.2]
      exact World.ownsRow_nil _ _ _ _
/-- A new ground. -/
structure Gr (w w' : World) (nb b tp : Nat) : Prop where
  num : NumW nb b w'
  tab : w'.heap[tp]? = some (.cells #[.pointer (some ⟨nb, 0, none⟩), .slice none 0 0, .int .i64 0] 98)
  l1 : w.heap.size ≤ nb
  l2 : w.heap.size ≤ b
  l3 : w.heap.size ≤ tp
  n1 : nb ≠ b
  n2 : tp ≠ nb
  n3 : tp ≠ b
  bel : Below w.heap.size w w'
theorem ground_any (w : World) : Calls Tryz.prog 9 #[] w fun e w' => ∃ nb b tp, e = .returned (.agg #[.pointer (some ⟨nb, 0, none⟩), .pointer (some ⟨tp, 0, none⟩)]) ∧ Gr w w' nb b tp := by
  go_enter Tryz.func9, Tryz.ntmps9
  go_wp2_with fail
  refine (new_any _).mono ?_; rintro e w1 ⟨rfl, hBB, hnb, hb1, hs1⟩
  have hx0 := hb1.block w.heap.size (by simp)
  rw [World.alloc_heap_new] at hx0
  have HW1 : Hid (BB 5 (w.heap.size + 1) (List.replicate 24 0) w1 ∧ w1.heap[w.heap.size + 1 + 1]? = some (.cells #[.slice (some ⟨w.heap.size + 1, 0, none⟩) 24 24] 110) ∧ Below w.heap.size w w1) := by
    simp only [World.size_alloc] at hBB hnb
    exact ⟨hBB, hnb, below_two (below_one _ _) hb1⟩
  have hl0 : w.heap.size < w1.heap.size := heap_lt hx0
  have hl2 : w.heap.size + 1 + 1 < w1.heap.size := heap_lt HW1.out.2.1
  clear hBB hnb hb1 hs1
  go_wp2_with fail
  refine (tabNew_any _ _).mono ?_; rintro e w2 ⟨rfl, rfl⟩
  have hx2 : (w1.alloc (.cells #[.pointer (some ⟨w.heap.size + 1 + 1, 0, none⟩), .slice none 0 0, .int .i64 0] 98)).heap[w.heap.size]? = _ := (Below.heap_alloc _ _ _ hl0).trans hx0
  have c0 := box_cell hx2 0
  have c1 := box_cell hx2 1
  have cz := box_frozen hx2
  have c0 : (w1.alloc (.cells #[.pointer (some ⟨w.heap.size + 1 + 1, 0, none⟩), .slice none 0 0, .int .i64 0] 98)).cell? ⟨w.heap.size, 0, none⟩ = some (.pointer none) := c0
  have c1 : (w1.alloc (.cells #[.pointer (some ⟨w.heap.size + 1 + 1, 0, none⟩), .slice none 0 0, .int .i64 0] 98)).cell? ⟨w.heap.size, 1, none⟩ = some (.pointer none) := c1
  have HG : Hid (Gr w (w1.alloc (.cells #[.pointer (some ⟨w.heap.size + 1 + 1, 0, none⟩), .slice none 0 0, .int .i64 0] 98)) (w.heap.size + 1 + 1) (w.heap.size + 1) w1.heap.size) := by
    have hb := below_one w1 (.cells #[.pointer (some ⟨w.heap.size + 1 + 1, 0, none⟩), .slice none 0 0, .int .i64 0] 98)
    refine ⟨⟨?_, by omega, List.replicate 24 0, ?_, by simp⟩, World.alloc_heap_new _ _, by omega, by omega, by omega, by omega, by omega, by omega, below_two HW1.out.2.2 hb⟩
    · exact (hb.block _ hl2).trans HW1.out.2.1
    · unfold BB at *
      exact (hb.block _ (by omega)).trans HW1.out.1
  generalize hwq : (w1.alloc (.cells #[.pointer (some ⟨w.heap.size + 1 + 1, 0, none⟩), .slice none 0 0, .int .i64 0] 98)) = w3 at *
  generalize w1.heap.size = tpq at *
  have hl3 : w.heap.size < w3.heap.size := heap_lt hx2
  clear HW1 hx0 hwq
  go_wp2_with fail
  refine bodyPost_ret (v := .agg #[.pointer (some ⟨w.heap.size + 1 + 1, 0, none⟩), .pointer (some ⟨tpq, 0, none⟩)]) (by simp [results, go_sem, c0, c1]) rfl ?_
  refine ⟨_, w.heap.size + 1, _, rfl, ?_⟩
  have hg := HG.out
  have hso : ∀ k, k ≠ w.heap.size → ((w3.setCell ⟨w.heap.size, 0, none⟩ (.pointer (some ⟨w.heap.size + 1 + 1, 0, none⟩))).setCell ⟨w.heap.size, 1, none⟩ (.pointer (some ⟨tpq, 0, none⟩))).heap[k]? = w3.heap[k]? := fun k hk => (Below.heap_setCell _ _ _ _ hk).trans (Below.heap_setCell _ _ _ _ hk)
  obtain ⟨⟨g1, g2, bs, g3, g4⟩, g5, g6, g7, g8, g9, g10, g11, g12⟩ := hg
  have ht : w.heap.size ≠ tpq := by
    rintro rfl
    rw [hx2] at g5
    cases g5
  refine ⟨⟨?_, g2, bs, ?_, g4⟩, (hso _ ht.symm).trans g5, g6, g7, g8, g9, g10, g11, ?_⟩
  · exact (hso _ (by omega)).trans g1
  · unfold BB at *
    exact (hso _ (by omega)).trans g3
  · exact below_set0 (below_set0 g12 _ _) _ _
/-- A new machine: its place, its colours. -/
def sideV (m nb tp : Nat) : Value := .agg #[.pointer (some ⟨m, 0, none⟩), .pointer (some ⟨nb, 0, none⟩), .pointer (some ⟨tp, 0, none⟩)]
theorem fresh_any (w : World) : Calls Tryz.prog 4 #[] w fun e w' => ∃ own m a nb tp, e = .returned (sideV m nb tp) ∧ Vm own w' m a nb tp mt ∧ (∀ k, k < w.heap.size → own k = 0) ∧ Below w.heap.size w w' := by
  go_enter Tryz.func4, Tryz.ntmps4
  go_wp2_with fail
  refine (ground_any _).mono ?_; rintro e w1 ⟨nb, b, tp, rfl, hG⟩
  have hx0 := hG.bel.block w.heap.size (by simp)
  rw [World.alloc_heap_new] at hx0
  have hl0 : w.heap.size < w1.heap.size := heap_lt hx0
  have HG : Hid (Gr (w.alloc (.cells #[.pointer none, .pointer none, .pointer none] 29)) w1 nb b tp) := hG
  clear hG
  go_wp2_with fail
  refine (vmNew_any _ _ _).mono ?_; rintro e w2 ⟨rfl, rfl⟩
  obtain ⟨hn, htp, l1, l2, l3, n1, n2, n3, hbel⟩ := HG.out
  simp only [World.size_alloc] at l1 l2 l3
  have lnb : nb < w1.heap.size := heap_lt hn.1
  have lb : b < w1.heap.size := by obtain ⟨_, _, bs, g3, _⟩ := hn; exact g3.lt
  have ltp : tp < w1.heap.size := heap_lt htp
  obtain ⟨X, hX⟩ : ∃ X, X = w1.heap.size := ⟨_, rfl⟩
  obtain ⟨W3, hW3⟩ : ∃ W3, W3 = ((w1.alloc (.cells #[.pointer (some ⟨nb, 0, none⟩), .pointer (some ⟨tp, 0, none⟩)] 27)).alloc thO).alloc (vmO nb tp (w1.heap.size + 1)) := ⟨_, rfl⟩
  have hbb : Below w1.heap.size w1 W3 := by rw [hW3]; exact below_two (below_two (below_one _ _) (below_one _ _)) (below_one _ _)
  have e0 : W3.heap[X]? = some (.cells #[.pointer (some ⟨nb, 0, none⟩), .pointer (some ⟨tp, 0, none⟩)] 27) := by
    rw [hW3, hX]
    simp only [alloc_at, World.size_alloc]
    rw [if_neg (show ¬ w1.heap.size = w1.heap.size + 1 + 1 by omega), if_neg (show ¬ w1.heap.size = w1.heap.size + 1 by omega), if_pos trivial]
  have e1 : W3.heap[X + 1]? = some thO := by
    rw [hW3, hX]
    simp only [alloc_at, World.size_alloc]
    rw [if_neg (show ¬ w1.heap.size + 1 = w1.heap.size + 1 + 1 by omega), if_pos trivial]
  have e2 : W3.heap[X + 1 + 1]? = some (vmO nb tp (X + 1)) := by
    rw [hW3, hX]
    simp only [alloc_at, World.size_alloc]
    rw [if_pos trivial]
  have hn3 : NumW nb b W3 := by
    obtain ⟨g1, g2, bs, g3, g4⟩ := hn
    refine ⟨(hbb.block nb lnb).trans g1, g2, bs, ?_, g4⟩
    unfold BB at *
    exact (hbb.block b lb).trans g3
  have hV := vm_new hn3 ((hbb.block tp ltp).trans htp) e1 e2 n1 n2 n3 (by omega) (by omega) (by omega) (by omega) (by omega) (by omega) (by omega)
  have hx3 := (hbb.block w.heap.size hl0).trans hx0
  obtain ⟨r0, r1, r2, rz⟩ := cells3 hx3
  obtain ⟨own, hown⟩ : ∃ own : Nat → Nat, own = fun k => if k = X + 1 + 1 then 400 else if k = X + 1 then 440 else if k = tp then 1 else if k = nb then 441 else if k = b then 442 else 0 := ⟨_, rfl⟩
  rw [← hown] at hV
  have hz : ∀ k, k ≤ w.heap.size → own k = 0 := by
    intro k hk
    rw [hown]
    show (if k = X + 1 + 1 then 400 else _) = 0
    rw [if_neg (by omega), if_neg (by omega), if_neg (by omega), if_neg (by omega), if_neg (by omega)]
  have b0 := box_cell e0 0
  have b1 := box_cell e0 1
  have b0 : W3.cell? ⟨X, 0, none⟩ = some (.pointer (some ⟨nb, 0, none⟩)) := b0
  have b1 : W3.cell? ⟨X, 1, none⟩ = some (.pointer (some ⟨tp, 0, none⟩)) := b1
  have lX : X < W3.heap.size := heap_lt e0
  have lW : w.heap.size < W3.heap.size := heap_lt hx3
  have HF : Hid (Vm own W3 (X + 1 + 1) (X + 1) nb tp mt ∧ (∀ k, k ≤ w.heap.size → own k = 0) ∧ Below w.heap.size w W3) := ⟨hV, hz, below_two (below_two (below_one _ _) hbel) hbb⟩
  have hWe : ((w1.alloc (.cells #[.pointer (some ⟨nb, 0, none⟩), .pointer (some ⟨tp, 0, none⟩)] 27)).alloc thO).alloc (vmO nb tp (w1.alloc (.cells #[.pointer (some ⟨nb, 0, none⟩), .pointer (some ⟨tp, 0, none⟩)] 27)).heap.size) = W3 := by rw [hW3, World.size_alloc]
  have hse : (w1.alloc (.cells #[.pointer (some ⟨nb, 0, none⟩), .pointer (some ⟨tp, 0, none⟩)] 27)).heap.size + 1 = X + 1 + 1 := by rw [World.size_alloc, hX]
  rw [hWe, hse, ← hX]
  clear hWe hse hW3 hX hV hn3 e1 e2 hbb hn htp hbel HG hown hz
  go_wp2_with fail
  refine bodyPost_ret (v := sideV (X + 1 + 1) nb tp) (by simp [results, go_sem, r0, r1, r2, sideV]) rfl ?_
  refine ⟨own, _, X + 1, _, _, rfl, ?_, fun k hk => HF.out.2.1 k (Nat.le_of_lt hk), below_set0 (below_set0 (below_set0 HF.out.2.2 _ _) _ _) _ _⟩
  refine HF.out.1.kept (by simp) (fun k hk e => ?_) (fun _ _ => rfl) (fun k hk => HF.out.1.far (by simpa using hk))
  have hne : k ≠ w.heap.size := by rintro rfl; exact e (HF.out.2.1 _ (Nat.le_refl _))
  exact (Below.heap_setCell _ _ _ _ hne).trans ((Below.heap_setCell _ _ _ _ hne).trans (Below.heap_setCell _ _ _ _ hne))
end Go.Proofs.Qxb6500293aGreatRR
