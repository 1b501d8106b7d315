import Derived.Test.Qxb6500293aGreatRRT15
namespace Go.Proofs.Qxb6500293aGreatRR
open Go.RowKit
open Ieee (double)
set_option linter.unusedVariables false
set_option linter.unusedSimpArgs false

def zTab : Value := .agg #[.slice none 0 0, .slice none 0 0, .map none, .map none, .map none, .int .i64 0]
theorem info101 : (Tryz.prog.info? 105).map (fun i => (i.zero, i.size, i.bytes)) = some (some zTab, 6, 80) := by kernel_rfl
/-- 'tabs := append(x.tabs, fresh)'. -/
theorem append_tab {w : World} {vt : Value} {n : Nat} {xs : List Value} (h : w.ownsRow 0 105 6 vt n xs) (hn : n ≤ 64) (a b c d e f : Value) (h1 : ∀ u ∈ [a, b, c, d, e, f], u.oneCell' = true) (ty : TypeId) :
    ∃ g cp w', (Builtin.append_ #[96, 96] ty #[vt, .slice (some ⟨w.heap.size, 0, none⟩) 1 1]).run Tryz.prog (w.alloc (.cells #[a, b, c, d, e, f] 105)) = .ok (.slice (some ⟨g, 0, none⟩) (n + 1) cp) w' ∧ w'.ownsRow 0 105 6 (.slice (some ⟨g, 0, none⟩) (n + 1) cp) (n + 1) (xs ++ [a, b, c, d, e, f]) ∧
      w.grownBy w' vt.ownBlock ∧ (vt.ownBlock = some g ∨ g = w.heap.size + 1) := by
  obtain ⟨i0, hi, hz0, hz1, hz2⟩ := info_parts info101
  obtain ⟨v', w', hr, h2, h3, h4, h5⟩ := run_append_own_at (P := Tryz.prog) (w.alloc (.cells #[a, b, c, d, e, f] 105)) 0 96 ty 105 i0 zTab 6 80 Tryz.underlying96 hi hz0 hz1 hz2 rfl (by decide) vt n xs (h.alloc _) ⟨w.heap.size, 0, none⟩ 1 1 [a, b, c, d, e, f] rfl (cell_six_new _ _ _ _ _ _ _ _) h1 (by unfold maxLen; omega) (by omega) (Nat.zero_le _)
  rcases h2.2 with ⟨_, hx⟩ | ⟨g, cap, cur, rfl, _⟩
  · omega
  refine ⟨g, cap, w', hr, h2, grown_trans (World.grownBy_alloc w _ _) h3, ?_⟩
  rcases h5 with h5 | h5
  · left; rw [← h5]; rfl
  · right; simp [Value.ownBlock] at h5; exact h5

/-- What Make answers and leaves. -/
def MakeEnd (own : Nat → Nat) (w : World) (x : Nat) (reps : List TabR) (count : Nat) (e : Ending) (w' : World) : Prop :=
  if 12 ≤ count then e = .returned (.tuple #[.int .i64 (-1), .int .i64 8]) ∧ w' = w
  else e = .returned (.tuple #[.int .i64 (count : Int), .int .i64 0]) ∧ ∃ own' reps', (∀ k, k < w.heap.size → own' k = own k) ∧ RealAt own' w' x reps' (count + 1) ∧ stOf reps' (count + 1) = stOf reps count ++ [[]] ∧ Chg own w w'
theorem makeEnd_full {own : Nat → Nat} {w : World} {x : Nat} {reps : List TabR} {count : Nat} (h : 12 ≤ count) : MakeEnd own w x reps count (.returned (.tuple #[.int .i64 (-1), .int .i64 8])) w := by
  unfold MakeEnd; rw [if_pos h]; exact ⟨rfl, rfl⟩
theorem makeEnd_mk {own : Nat → Nat} {w w' : World} {x : Nat} {reps : List TabR} {count : Nat} {n : Int} (h : ¬ 12 ≤ count) (hn : n = (count : Int)) (own' : Nat → Nat) (reps' : List TabR) (h1 : ∀ k, k < w.heap.size → own' k = own k) (h2 : RealAt own' w' x reps' (count + 1)) (h3 : stOf reps' (count + 1) = stOf reps count ++ [[]]) (h4 : Chg own w w') :
    MakeEnd own w x reps count (.returned (.tuple #[.int .i64 n, .int .i64 0])) w' := by
  unfold MakeEnd; rw [if_neg h, hn]; exact ⟨rfl, own', reps', h1, h2, h3, h4⟩
theorem TabsAt.setCount {w : World} {x : Nat} {np vt : Value} {count : Nat} (h : TabsAt w x np vt count) (n : Nat) : TabsAt (w.setCell ⟨x, 2, none⟩ (.int .i64 (n : Int))) x np vt n :=
  ⟨(World.cell?_setCell_other _ _ _ _ (by intro e; injection e; omega)).trans h.c0, (World.cell?_setCell_other _ _ _ _ (by intro e; injection e; omega)).trans h.c1, World.cell?_setCell_same' _ _ _ (by rw [h.c2]; rfl), fun j => (World.frozen?_setCell _ _ _ _).trans (h.fz j), by have := h.lt; simpa using this⟩

theorem push4 {w : Array Obj} (a b c d : Obj) : ((((w.push a).push b).push c).push d)[w.size]? = some a ∧ ((((w.push a).push b).push c).push d)[w.size + 1]? = some b ∧ ((((w.push a).push b).push c).push d)[w.size + 1 + 1]? = some c ∧ ((((w.push a).push b).push c).push d)[w.size + 1 + 1 + 1]? = some d := by
  refine ⟨?_, ?_, ?_, ?_⟩
  · rw [Array.getElem?_push, if_neg (by simp only [Array.size_push]; omega), Array.getElem?_push, if_neg (by simp only [Array.size_push]; omega), Array.getElem?_push, if_neg (by simp), Array.getElem?_push, if_pos rfl]
  · rw [Array.getElem?_push, if_neg (by simp only [Array.size_push]; omega), Array.getElem?_push, if_neg (by simp), Array.getElem?_push, if_pos (by simp)]
  · rw [Array.getElem?_push, if_neg (by simp), Array.getElem?_push, if_pos (by simp)]
  · rw [Array.getElem?_push, if_pos (by simp)]
/-- The new table. -/
def freshR (b : Nat) : TabR := ⟨.slice none 0 0, .slice none 0 0, b, b + 1, b + 1 + 1, [], [], 0, 0, 0⟩
theorem numsF_nil (n : Nat) : numsF [] n = fun _ => none := by
  funext l
  by_cases hl : ∃ x, l = .int .u64 x
  · obtain ⟨x, rfl⟩ := hl
    rw [numsF_int]
    split <;> rfl
  · exact numsF_other _ _ (fun x e => hl ⟨x, e⟩)
theorem strsF_nil : strsF [] = fun _ => none := by
  funext l
  by_cases hl : ∃ x, l = .string x
  · obtain ⟨x, rfl⟩ := hl; rfl
  · exact strsF_other _ (fun x e => hl ⟨x, e⟩)
theorem refsF_nil : refsF [] = fun _ => none := by
  funext l
  by_cases hl : ∃ x, l = .int .u64 x
  · obtain ⟨x, rfl⟩ := hl; rfl
  · exact refsF_other _ (fun x e => hl ⟨x, e⟩)
theorem inv_nil : Inv [] [] := ⟨by simp, by simp, by simp, by simp, by simp⟩
theorem make_grown {own : Nat → Nat} {w W5 w7 : World} {x : Nat} {reps : List TabR} {count nb : Nat} {vt : Value} (H : RealAt own w x reps count) (hfull : ¬ 12 ≤ count) (hlen : count = reps.length)
    (ht : TabsAt w x (.pointer (some ⟨nb, 0, none⟩)) vt count) (hrow : w.ownsRow 0 105 6 vt reps.length (reps.flatMap tabC)) (hvc : ∀ g, vt.ownBlock = some g → own g = 2)
    (hB : Below w.heap.size w W5) (m0 : W5.heap[w.heap.size]? = some (.map #[] 0)) (m1 : W5.heap[w.heap.size + 1]? = some (.map #[] 0)) (m2 : W5.heap[w.heap.size + 1 + 1]? = some (.map #[] 0)) (hs5 : w.heap.size + 4 ≤ W5.heap.size) {g cp : Nat}
    (hr7 : w7.ownsRow 0 105 6 (.slice (some ⟨g, 0, none⟩) (reps.length + 1) cp) (reps.length + 1) (reps.flatMap tabC ++ tabC (freshR w.heap.size))) (hg7 : W5.grownBy w7 vt.ownBlock) (hgw : vt.ownBlock = some g ∨ g = W5.heap.size + 1) :
    MakeEnd own w x reps count (.returned (.tuple #[.int .i64 (count : Int), .int .i64 0])) ((w7.setCell ⟨x, 1, none⟩ (.slice (some ⟨g, 0, none⟩) (reps.length + 1) cp)).setCell ⟨x, 2, none⟩ (.int .i64 ((count + 1 : Nat) : Int))) := by
  have hxc := H.xc
  have hvlt : ∀ k, vt.ownBlock = some k → k < w.heap.size := fun k hk => ownsRow_lt hrow k hk
  have hvx : vt.ownBlock ≠ some x := fun e => by have := hvc x e; omega
  have hgx : g ≠ x := by
    rintro rfl
    rcases hgw with e | e
    · exact hvx e
    · have := ht.lt; omega
  have hoth : ∀ k, k ≠ x → ((w7.setCell ⟨x, 1, none⟩ (.slice (some ⟨g, 0, none⟩) (reps.length + 1) cp)).setCell ⟨x, 2, none⟩ (.int .i64 ((count + 1 : Nat) : Int))).heap[k]? = w7.heap[k]? := fun k hk => (Below.heap_setCell _ _ _ _ hk).trans (Below.heap_setCell _ _ _ _ hk)
  have h57 : ∀ k, k < W5.heap.size → vt.ownBlock ≠ some k → w7.heap[k]? = W5.heap[k]? := fun k hk hn => hg7.block k hk (Ne.symm hn)
  have hold : ∀ k, k < w.heap.size → k ≠ x → vt.ownBlock ≠ some k → ((w7.setCell ⟨x, 1, none⟩ (.slice (some ⟨g, 0, none⟩) (reps.length + 1) cp)).setCell ⟨x, 2, none⟩ (.int .i64 ((count + 1 : Nat) : Int))).heap[k]? = w.heap[k]? := fun k hk h1 h2 => (hoth k h1).trans ((h57 k (by omega) h2).trans (hB.block k hk))
  have hT7 : TabsAt w7 x (.pointer (some ⟨nb, 0, none⟩)) vt count := (ht.below hB).kept (h57 x (by have := ht.lt; omega) hvx) hg7.size
  have hT8 : TabsAt (w7.setCell ⟨x, 1, none⟩ (.slice (some ⟨g, 0, none⟩) (reps.length + 1) cp)) x (.pointer (some ⟨nb, 0, none⟩)) (.slice (some ⟨g, 0, none⟩) (reps.length + 1) cp) count :=
    ⟨(World.cell?_setCell_other _ _ _ _ (by intro e; injection e; omega)).trans hT7.c0, World.cell?_setCell_same' _ _ _ (by rw [hT7.c1]; rfl), (World.cell?_setCell_other _ _ _ _ (by intro e; injection e; omega)).trans hT7.c2, fun j => (World.frozen?_setCell _ _ _ _).trans (hT7.fz j), by have := hT7.lt; simpa using this⟩
  have hnew : ∀ k, w.heap.size ≤ k → vt.ownBlock ≠ some k := fun k hk e => by have := hvlt k e; omega
  have hmap : ∀ k kt, w.heap.size ≤ k → k < W5.heap.size → W5.heap[k]? = some (.map #[] 0) → MapAt kt ((w7.setCell ⟨x, 1, none⟩ (.slice (some ⟨g, 0, none⟩) (reps.length + 1) cp)).setCell ⟨x, 2, none⟩ (.int .i64 ((count + 1 : Nat) : Int))) k 0 (fun _ => none) := by
    intro k kt h1 h2 h3
    refine ⟨.map [], ⟨#[], 0, ?_, ⟨by simp, MapKept.stamped_empty _, by simp⟩, by simp, rfl⟩, rfl, fun _ => rfl, fun _ _ h => by cases h⟩
    rw [hoth k (by have := ht.lt; omega), h57 k h2 (hnew k h1)]; exact h3
  obtain ⟨own', hown'⟩ : ∃ own' : Nat → Nat, own' = fun k => if k = w.heap.size then 12 + 5 * reps.length else if k = w.heap.size + 1 then 13 + 5 * reps.length else if k = w.heap.size + 1 + 1 then 14 + 5 * reps.length else if k = g ∧ w.heap.size ≤ k then 2 else own k := ⟨_, rfl⟩
  have ho : ∀ k, k < w.heap.size → own' k = own k := by
    intro k hk
    rw [hown']
    dsimp only
    rw [if_neg (by omega), if_neg (by omega), if_neg (by omega), if_neg (by omega)]
  have o0 : own' w.heap.size = 12 + 5 * reps.length := by rw [hown']; dsimp only; rw [if_pos rfl]
  have o1 : own' (w.heap.size + 1) = 13 + 5 * reps.length := by rw [hown']; dsimp only; rw [if_neg (by omega), if_pos rfl]
  have o2 : own' (w.heap.size + 1 + 1) = 14 + 5 * reps.length := by rw [hown']; dsimp only; rw [if_neg (by omega), if_neg (by omega), if_pos rfl]
  have og : own' g = 2 := by
    rcases hgw with e | e
    · rw [ho g (hvlt g e)]; exact hvc g e
    · rw [hown']; dsimp only; rw [if_neg (by omega), if_neg (by omega), if_neg (by omega), if_pos ⟨rfl, by omega⟩]
  refine makeEnd_mk hfull rfl own' (reps ++ [freshR w.heap.size]) ho ⟨⟨nb, _, hT8.setCount (count + 1), ?_, fun g' hg' => by cases hg'; exact og⟩, (ho x ht.lt).trans hxc, ?_, by simp; omega, by simp; omega, ?_⟩ ?_ ?_
  · rw [List.length_append, List.length_singleton, List.flatMap_append]
    exact ownsRow_block (by simpa using hr7) (fun k hk => by cases hk; exact hoth g hgx)
  · intro h r hr
    rcases Nat.lt_or_ge h reps.length with c | c
    · rw [List.getElem?_append_left c] at hr
      obtain ⟨h1, h2⟩ := H.rep h r hr
      exact ⟨h1.kept (fun k hk e1 e2 => hold k hk (by rintro rfl; omega) (fun e => by have := hvc k e; omega)) ho, h2⟩
    · have : h = reps.length := by have := (List.getElem?_eq_some_iff.1 hr).1; simp at this; omega
      subst this
      rw [List.getElem?_append_right (Nat.le_refl _), Nat.sub_self] at hr
      simp at hr
      subst hr
      refine ⟨⟨World.ownsRow_nil _ _ _ _, (fun g hg => by cases hg), World.ownsRow_nil _ _ _ _, (fun g hg => by cases hg), ?_, o0, ?_, o1, ?_, o2, rfl, inv_nil⟩, rfl⟩
      · show MapAt 31 _ w.heap.size 0 (numsF [] 0)
        rw [numsF_nil]; exact hmap _ _ (Nat.le_refl _) (by omega) m0
      · show MapAt 9 _ (w.heap.size + 1) 0 (strsF [])
        rw [strsF_nil]; exact hmap _ _ (by omega) (by omega) m1
      · show MapAt 31 _ (w.heap.size + 1 + 1) 0 (refsF [])
        rw [refsF_nil]; exact hmap _ _ (by omega) (by omega) m2
  · intro h r hr hc
    rcases Nat.lt_or_ge h reps.length with c | c
    · omega
    · have := (List.getElem?_eq_some_iff.1 hr).1; simp at this; omega
  · unfold stOf
    rw [List.take_of_length_le (by simp; omega), List.take_of_length_le (by omega), List.map_append]
    rfl
  · refine ⟨(hg7.os.trans hB.os), hg7.tape.trans hB.tape, hg7.output.trans hB.output, ?_, fun k hk hn => hold k hk (by rintro rfl; omega) (fun e => by have := hvc k e; omega)⟩
    have := hg7.size; have := hB.size
    simp; omega

set_option maxRecDepth 8000 in
set_option maxHeartbeats 3200000 in
theorem make_any (own : Nat → Nat) (x : Nat) (reps : List TabR) (count : Nat) (w : World) (H : RealAt own w x reps count) :
    Calls Tryz.prog 54 #[.pointer (some ⟨x, 0, none⟩)] w (MakeEnd own w x reps count) := by
  obtain ⟨nb, vt, ht, hrow, hvc⟩ := H.tabs
  obtain ⟨c0, c1, c2, fz, lt⟩ := id ht
  have hcl : count ≤ 12 := by have := H.cnt; have := H.max; omega
  have hlm := H.max
  have hlc := H.cnt
  obtain ⟨ad, cap, rfl⟩ := row_slice hrow
  by_cases hfull : 12 ≤ count
  · clear H hrow hvc ht fz
    go_enter Tryz.func54, Tryz.ntmps54
    go_wp2
    go_ret2
    exact makeEnd_full hfull
  have f2 := fz 2
  have f1 := fz 1
  by_cases hlen : count = reps.length
  · have bl : ((count : Int) == (reps.length : Int)) = true := by rw [beq_iff_eq]; omega
    have hmm := @run_makeMap Tryz.prog
    have d12 : decide (12 ≤ (count : Int)) = false := decide_eq_false (by omega)
    have HH : Hid (RealAt own w x reps count) := H
    have HT : Hid (TabsAt w x (.pointer (some ⟨nb, 0, none⟩)) (.slice ad reps.length cap) count) := ht
    have HROW : Hid (w.ownsRow 0 105 6 (.slice ad reps.length cap) reps.length (reps.flatMap tabC)) := hrow
    have HVC : Hid (∀ g, (Value.slice ad reps.length cap).ownBlock = some g → own g = 2) := hvc
    have HLEN : Hid (count = reps.length) := hlen
    obtain ⟨rl, hrl⟩ : ∃ rl, rl = reps.length := ⟨_, rfl⟩
    rw [← hrl] at HROW HT HVC hlen hlm hlc bl c1
    have HRL : Hid (rl = reps.length) := hrl
    subst hlen
    clear H hrow hvc ht fz hrl
    have hx1 : ¬ x = w.heap.size := by omega
    have hx2 : ¬ x = w.heap.size + 1 := by omega
    have hx3 : ¬ x = w.heap.size + 1 + 1 := by omega
    have hx4 : ¬ x = w.heap.size + 1 + 1 + 1 := by omega
    go_enter Tryz.func54, Tryz.ntmps54
    go_wp2
    go_quiet (fail)
    go_upto_region 5 with fail
    obtain ⟨W5, hW5⟩ : ∃ W5, W5 = (((((w.drewN nq).alloc (Obj.map #[] 0)).alloc (Obj.map #[] 0)).alloc (Obj.map #[] 0)).alloc (Obj.cells #[.slice none 0 0, .slice none 0 0, .map (some w.heap.size), .map (some (w.heap.size + 1)), .map (some (w.heap.size + 1 + 1)), .int .i64 0] 105)) := ⟨_, rfl⟩
    rw [← hW5]
    have hB5 : Below w.heap.size w W5 := by rw [hW5]; exact below_two (below_two (below_two (below_two (below_drewN (Below.refl _ _) nq) (below_one _ _)) (below_one _ _)) (below_one _ _)) (below_one _ _)
    have hs5 : W5.heap.size = w.heap.size + 4 := by rw [hW5]; simp
    have mm : W5.heap[w.heap.size]? = some (.map #[] 0) ∧ W5.heap[w.heap.size + 1]? = some (.map #[] 0) ∧ W5.heap[w.heap.size + 1 + 1]? = some (.map #[] 0) ∧ W5.heap[w.heap.size + 1 + 1 + 1]? = some (.cells #[.slice none 0 0, .slice none 0 0, .map (some w.heap.size), .map (some (w.heap.size + 1)), .map (some (w.heap.size + 1 + 1)), .int .i64 0] 105) := by
      rw [hW5]
      exact push4 (w := w.heap) _ _ _ _
    have fc : W5.cell? ⟨w.heap.size + 1 + 1 + 1, 0, none⟩ = some (.slice none 0 0) ∧ W5.cell? ⟨w.heap.size + 1 + 1 + 1, 1, none⟩ = some (.slice none 0 0) ∧ W5.cell? ⟨w.heap.size + 1 + 1 + 1, 2, none⟩ = some (.map (some w.heap.size)) ∧ W5.cell? ⟨w.heap.size + 1 + 1 + 1, 3, none⟩ = some (.map (some (w.heap.size + 1))) ∧ W5.cell? ⟨w.heap.size + 1 + 1 + 1, 4, none⟩ = some (.map (some (w.heap.size + 1 + 1))) ∧ W5.cell? ⟨w.heap.size + 1 + 1 + 1, 5, none⟩ = some (.int .i64 0) := by
      simp [World.cell?, mm.2.2.2]
    obtain ⟨e0, e1, e2, e3, e4, e5⟩ := fc
    have hrow5 := ownsRow_block (w' := W5) HROW.out (fun g hg => hB5.block g (ownsRow_lt HROW.out g hg))
    have hrow5 : W5.drew.ownsRow 0 105 6 (.slice ad count cap) count (reps.flatMap tabC) := hrow5
    obtain ⟨g, cp, w7, happ, hr7, hg7, hgw⟩ := append_tab hrow5 (by omega) (.slice none 0 0) (.slice none 0 0) (.map (some w.heap.size)) (.map (some (w.heap.size + 1))) (.map (some (w.heap.size + 1 + 1))) (.int .i64 0) (by simp [Value.oneCell']) 96
    have hg7' : W5.grownBy w7 (Value.slice ad count cap).ownBlock := ⟨hg7.os, hg7.tape, hg7.output, hg7.size, hg7.block⟩
    have hvx : (Value.slice ad count cap).ownBlock ≠ some x := fun e => by have := HVC.out x e; have := HH.out.xc; omega
    have hT7 := (HT.out.below hB5).kept (hg7'.block x (by omega) (Ne.symm hvx)) hg7'.size
    obtain ⟨t0, t1, t2, tz, tl⟩ := hT7
    have tz1 := tz 1
    have tz2 := tz 2
    have hfin := make_grown HH.out hfull HLEN.out HT.out (by rw [← HLEN.out]; exact HROW.out) HVC.out hB5 mm.1 mm.2.1 mm.2.2.1 (by omega) (g := g) (cp := cp) (by rw [← HLEN.out]; exact hr7) hg7' hgw
    rw [← HLEN.out] at hfin
    have HFIN : Hid (MakeEnd own w x reps count _ _) := hfin
    obtain ⟨x0, x1, x2, _, lx5⟩ := HT.out.below hB5
    have hne5 : ¬ x = W5.heap.size := by omega
    have hne6 : ¬ w.heap.size + 1 + 1 + 1 = W5.heap.size := by omega
    have hlt6 : w.heap.size + 1 + 1 + 1 < W5.heap.size := by omega
    clear hfin hg7 hg7' hgw hr7 hrow5 mm tz HH HROW HVC HT HRL hB5 hs5
    go_cut [5] from 6 (fun s wx => s = .slice (some ⟨g, 0, none⟩) (count + 1) cp ∧ wx = w7)
    case first =>
      clear HFIN hW5
      go_region_law (refine step_append_eq rfl (.tmp 28) (.tmp 30) 96 rfl _ _ _ _ (by simp [Act.eval, Act.put]) (by simp [Act.eval, Act.put]) happ ?_)
      all_goals
        go_wp2_with fail
        go_meet
        case rel => exact ⟨rfl, rfl⟩
    case rest =>
    obtain ⟨rfl, rfl⟩ := hcut
    clear happ hW5
    go_wp2
    go_ret2
    exact HFIN.out
  · have bl : ((count : Int) == (reps.length : Int)) = false := by rw [beq_eq_false_iff_ne]; omega
    have hcnt : count < reps.length := by omega
    have HFIN : Hid (∀ W, Below w.heap.size w W → MakeEnd own w x reps count (.returned (.tuple #[.int .i64 (count : Int), .int .i64 0])) (W.setCell ⟨x, 2, none⟩ (.int .i64 ((count + 1 : Nat) : Int)))) := by
      intro W hW
      have HW := H.below hW
      have hoth : ∀ k, k ≠ x → (W.setCell ⟨x, 2, none⟩ (.int .i64 ((count + 1 : Nat) : Int))).heap[k]? = W.heap[k]? := fun k hk => Below.heap_setCell _ _ _ _ hk
      refine makeEnd_mk hfull rfl own reps (fun _ _ => rfl) ⟨⟨nb, _, (ht.below hW).setCount (count + 1), ?_, hvc⟩, H.xc, ?_, hcnt, H.max, fun h r hr hc => H.wiped h r hr (by omega)⟩ ?_ ?_
      · exact ownsRow_block (ownsRow_block hrow (fun g hg => hW.block g (ownsRow_lt hrow g hg))) (fun g hg => hoth g (by rintro rfl; have := hvc _ hg; have := H.xc; omega))
      · intro h r hr
        obtain ⟨h1, h2⟩ := HW.rep h r hr
        exact ⟨h1.kept (fun k hk e1 e2 => hoth k (by rintro rfl; have := H.xc; omega)) (fun _ _ => rfl), h2⟩
      · unfold stOf
        rw [List.take_add_one, List.map_append]
        have hr : reps[count]? = some reps[count] := List.getElem?_eq_getElem hcnt
        rw [hr]
        simp only [Option.toList_some, List.map_cons, List.map_nil]
        rw [(H.wiped count _ hr (Nat.le_refl _)).1]
      · refine (Chg.of_below hW).trans ⟨rfl, rfl, rfl, by simp, fun k hk hn => hoth k ?_⟩ (fun _ _ => rfl)
        rintro rfl; have := H.xc; omega
    generalize reps.length = rl at *
    clear H hrow hvc ht fz
    go_enter Tryz.func54, Tryz.ntmps54
    go_wp2
    go_quiet (fail)
    go_wp2
    go_ret2
    exact HFIN.out _ (below_drewN (Below.refl _ _) _)
end Go.Proofs.Qxb6500293aGreatRR
