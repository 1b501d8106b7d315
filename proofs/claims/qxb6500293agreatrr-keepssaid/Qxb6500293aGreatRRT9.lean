import Derived.Test.Qxb6500293aGreatRRT8
namespace Go.Proofs.Qxb6500293aGreatRR
open Go.RowKit
open Ieee (double)
set_option linter.unusedVariables false
set_option linter.unusedSimpArgs false

theorem ownsRow_mk {w : World} {e : TypeId} {sz n g cap : Nat} {cur : Array Value} {xs : List Value} (hb : w.heap[g]? = some (.cells cur e)) (hs : cur.size = cap * sz) (hn : n ≤ cap) (hm : cap ≤ maxLen) (hl : xs.length = n * sz) (hx : ∀ i, i < n * sz → cur[i]? = xs[i]?) :
    w.ownsRow 0 e sz (.slice (some ⟨g, 0, none⟩) n cap) n xs := by
  refine ⟨hl, .inr ⟨g, cap, cur, rfl, Nat.zero_le _, hb, hn, hm, hs, ?_⟩⟩
  apply List.ext_getElem?
  intro i
  rw [List.getElem?_take]
  by_cases c : i < n * sz
  · rw [if_pos c, ← hx i c]; simp
  · rw [if_neg c, List.getElem?_eq_none (by omega)]
theorem ownsRow_at {w : World} {e : TypeId} {sz n g cap : Nat} {xs : List Value} (h : w.ownsRow 0 e sz (.slice (some ⟨g, 0, none⟩) n cap) n xs) : ∃ cur : Array Value, w.heap[g]? = some (.cells cur e) ∧ cur.size = cap * sz ∧ n ≤ cap ∧ cap ≤ maxLen ∧ xs.length = n * sz ∧ ∀ i, i < n * sz → cur[i]? = xs[i]? := by
  rcases h.2 with ⟨h1, _⟩ | ⟨g', cap', cur, h1, hb, hgg, hc, hm, hs, ht⟩
  · cases h1
  · cases h1
    refine ⟨cur, hgg, hs, hc, hm, h.1, ?_⟩
    intro i hi
    rw [← ht, List.getElem?_take, if_pos hi]
    simp
theorem ordC_len (t : Tbl) : (ordC t).length = t.length * 6 := by
  unfold ordC
  induction t with
  | nil => rfl
  | cons e t ih => rw [List.flatMap_cons, List.length_append, ih, entC_len]; simp; omega
/-- Two rows of entries alike but for place p. -/
theorem ord_setVal {w : World} {t : Tbl} {g cap p : Nat} {e : V × V} (h : w.ownsRow 0 108 6 (.slice (some ⟨g, 0, none⟩) t.length cap) t.length (ordC t)) (he : t[p]? = some e) (v : V) :
    (((w.setCell ⟨g, p * 6 + 3, none⟩ (.int .i64 v.T)).setCell ⟨g, p * 6 + 4, none⟩ (.int .u64 v.N)).setCell ⟨g, p * 6 + 5, none⟩ (.string ⟨v.S.toArray⟩)).ownsRow 0 108 6 (.slice (some ⟨g, 0, none⟩) t.length cap) (setVal t p v).length (ordC (setVal t p v)) := by
  obtain ⟨cur, hb, hs, hn, hm, hl, hx⟩ := ownsRow_at h
  have hp := (List.getElem?_eq_some_iff.1 he).1
  rw [setVal_len]
  refine ownsRow_mk (heap_setCell_same (heap_setCell_same (heap_setCell_same hb _) _) _) (by simpa using hs) hn hm (by rw [ordC_len, setVal_len]) ?_
  intro i hi
  obtain ⟨q, j, hj, rfl⟩ : ∃ q j, j < 6 ∧ i = q * 6 + j := ⟨i / 6, i % 6, Nat.mod_lt _ (by decide), by omega⟩
  have hq : q < t.length := by omega
  have hold := flat6 entC entC_len t q t[q] (List.getElem?_eq_getElem hq) j hj
  have hc := hx _ hi
  rw [show ordC t = t.flatMap entC from rfl, hold] at hc
  have hnew := flat6 entC entC_len (setVal t p v) q (if p = q then (e.1, v) else t[q]) (by rw [setVal_at he]; split; rfl; exact List.getElem?_eq_getElem hq) j hj
  rw [show ordC (setVal t p v) = (setVal t p v).flatMap entC from rfl, hnew]
  simp only [Array.getElem?_setIfInBounds, Array.size_setIfInBounds]
  have hsz : p * 6 + 5 < cur.size := by rw [hs]; omega
  by_cases c : p = q
  · subst c
    have hte : t[p] = e := by simpa [List.getElem?_eq_getElem hp] using he
    rw [hte] at hc
    rw [if_pos rfl]
    rcases (by omega : j = 0 ∨ j = 1 ∨ j = 2 ∨ j = 3 ∨ j = 4 ∨ j = 5) with rfl | rfl | rfl | rfl | rfl | rfl
    · simpa [entC] using hc
    · simpa [entC] using hc
    · simpa [entC] using hc
    · simp [entC]; omega
    · simp [entC]; omega
    · simp [entC]; omega
  · rw [if_neg c]
    rw [if_neg (by omega), if_neg (by omega), if_neg (by omega)]
    exact hc

theorem TabAt.heap {own : Nat → Nat} {w w' : World} {A h : Nat} {r : TabR} (H : TabAt own w A h r) (e : w'.heap = w.heap) : TabAt own w' A h r := by
  obtain ⟨c0, c1, c2, c3, c4, c5, fz, lt, rep⟩ := H
  have hc : ∀ j, w'.cell? ⟨A, j, none⟩ = w.cell? ⟨A, j, none⟩ := fun j => World.cell?_of_block (a := ⟨A, j, none⟩) (by rw [e])
  have hf : ∀ j, w'.frozen? ⟨A, j, none⟩ = w.frozen? ⟨A, j, none⟩ := fun j => World.frozen?_of_block (a := ⟨A, j, none⟩) (by rw [e])
  exact ⟨(hc _).trans c0, (hc _).trans c1, (hc _).trans c2, (hc _).trans c3, (hc _).trans c4, (hc _).trans c5, fun j => (hf j).trans (fz j), by rw [e]; exact lt, rep.kept (fun k _ _ _ => by rw [e]) (fun _ _ => rfl)⟩
def set3 (w : World) (g p : Nat) (v : V) : World := ((w.setCell ⟨g, p * 6 + 3, none⟩ (.int .i64 v.T)).setCell ⟨g, p * 6 + 4, none⟩ (.int .u64 v.N)).setCell ⟨g, p * 6 + 5, none⟩ (.string ⟨v.S.toArray⟩)
theorem set3_block (w : World) (g p : Nat) (v : V) (k : Nat) (hk : k ≠ g) : (set3 w g p v).heap[k]? = w.heap[k]? := by
  unfold set3
  rw [Below.heap_setCell _ _ _ _ hk, Below.heap_setCell _ _ _ _ hk, Below.heap_setCell _ _ _ _ hk]
/-- The dead counted anew, the value laid. -/
theorem tab_turned {own : Nat → Nat} {w w3 : World} {A h : Nat} {r : TabR} (ht : TabAt own w A h r) (hcA : own A = 2) {p : Nat} {e : V × V} (he : r.t[p]? = some e) {v : V} (hv : ValOk v)
    (h3 : (w3 = w ∧ deadN (setVal r.t p v) = deadN r.t) ∨ w3 = w.setCell ⟨A, h * 6 + 5, none⟩ (.int .i64 (deadN (setVal r.t p v)))) {g cap : Nat} (hvo : r.vo = .slice (some ⟨g, 0, none⟩) r.t.length cap) :
    TabAt own (set3 w3 g p v) A h { r with t := setVal r.t p v } ∧ Only own A h w (set3 w3 g p v) := by
  have hgc : own g = 10 + 5 * h := ht.rep.ordc g (by rw [hvo]; rfl)
  have hgA : g ≠ A := by intro e; rw [e, hcA] at hgc; omega
  have hlt := ht.lt
  obtain ⟨curA, hbA⟩ : ∃ o, w.heap[A]? = some o := ⟨w.heap[A], Array.getElem?_eq_getElem hlt⟩
  -- the arena's cells behind the count
  have h3b : ∀ k, k ≠ A → w3.heap[k]? = w.heap[k]? := by
    rcases h3 with ⟨rfl, _⟩ | rfl
    · exact fun _ _ => rfl
    · exact fun k hk => Below.heap_setCell _ _ _ _ hk
  have h3c : ∀ j, j ≠ h * 6 + 5 → w3.cell? ⟨A, j, none⟩ = w.cell? ⟨A, j, none⟩ := by
    rcases h3 with ⟨rfl, _⟩ | rfl
    · exact fun _ _ => rfl
    · exact fun j hj => World.cell?_setCell_other _ _ _ _ (by intro e; injection e; omega)
  have h3d : w3.cell? ⟨A, h * 6 + 5, none⟩ = some (.int .i64 (deadN (setVal r.t p v))) := by
    rcases h3 with ⟨rfl, hd⟩ | rfl
    · rw [hd]; exact ht.c5
    · exact World.cell?_setCell_same' _ _ _ (by rw [ht.c5]; rfl)
  have h3f : ∀ j, w3.frozen? ⟨A, j, none⟩ = false := by
    rcases h3 with ⟨rfl, hd⟩ | rfl
    · exact ht.fz
    · intro j; rw [World.frozen?_setCell]; exact ht.fz j
  have h3s : w3.heap.size = w.heap.size := by
    rcases h3 with ⟨rfl, hd⟩ | rfl
    · rfl
    · simp
  have hA : ∀ j, (set3 w3 g p v).cell? ⟨A, j, none⟩ = w3.cell? ⟨A, j, none⟩ := fun j => World.cell?_of_block (a := ⟨A, j, none⟩) (set3_block w3 g p v A (Ne.symm hgA))
  have hAf : ∀ j, (set3 w3 g p v).frozen? ⟨A, j, none⟩ = w3.frozen? ⟨A, j, none⟩ := fun j => World.frozen?_of_block (a := ⟨A, j, none⟩) (set3_block w3 g p v A (Ne.symm hgA))
  have hk := setVal_keys r.t p v
  have hsz : (set3 w3 g p v).heap.size = w.heap.size := by unfold set3; simp [h3s]
  have hoth : ∀ k, k ≠ A → k ≠ g → (set3 w3 g p v).heap[k]? = w.heap[k]? := fun k h1 h2 => (set3_block w3 g p v k h2).trans (h3b k h1)
  have col : ∀ k c, own k = c → c ≠ 2 → c ≠ 10 + 5 * h → (set3 w3 g p v).heap[k]? = w.heap[k]? := fun k c h1 h2 h4 => hoth k (by rintro rfl; omega) (by rintro rfl; omega)
  constructor
  · refine ⟨(hA _).trans ((h3c _ (by omega)).trans ht.c0), (hA _).trans ((h3c _ (by omega)).trans ht.c1), (hA _).trans ((h3c _ (by omega)).trans ht.c2), (hA _).trans ((h3c _ (by omega)).trans ht.c3), (hA _).trans ((h3c _ (by omega)).trans ht.c4), (hA _).trans h3d, fun j => (hAf j).trans (h3f j), by rw [hsz]; exact hlt, ?_⟩
    have R := ht.rep
    refine ⟨?_, R.ordc, ?_, R.arrc, ?_, R.numsc, ?_, R.strsc, ?_, R.refsc, ?_, inv_setVal R.inv he hv⟩
    · have ho := R.ord
      show (set3 w3 g p v).ownsRow 0 108 6 r.vo (setVal r.t p v).length (ordC (setVal r.t p v))
      rw [hvo] at ho ⊢
      exact ord_setVal (ownsRow_block ho (fun g' hg' => by cases hg'; exact h3b g hgA)) he v
    · exact ownsRow_block R.arr (fun g' hg' => col g' _ (R.arrc g' hg') (by omega) (by omega))
    · show MapAt 31 _ r.bn r.nn (numsF (setVal r.t p v) r.a.length)
      rw [nums_keys hk]; exact R.nums.block (col _ _ R.numsc (by omega) (by omega))
    · show MapAt 9 _ r.bs r.ns (strsF (setVal r.t p v))
      rw [strs_keys hk]; exact R.strs.block (col _ _ R.strsc (by omega) (by omega))
    · show MapAt 31 _ r.br r.nr (refsF (setVal r.t p v))
      rw [refs_keys hk]; exact R.refs.block (col _ _ R.refsc (by omega) (by omega))
    · show _ = (setVal r.t p v).length
      rw [setVal_len]; exact R.sum
  · have O3 : Only own A h w w3 := by
      rcases h3 with ⟨rfl, _⟩ | rfl
      · exact Only.refl _ _ _ _
      · exact (Only.refl own A h w).set_arena (by omega) _
    exact ((O3.set_own (p := ⟨g, p * 6 + 3, none⟩) hgA (.inl (by dsimp only; omega)) _).set_own (p := ⟨g, p * 6 + 4, none⟩) hgA (.inl (by dsimp only; omega)) _).set_own (p := ⟨g, p * 6 + 5, none⟩) hgA (.inl (by dsimp only; omega)) _

set_option maxRecDepth 8000 in
set_option maxHeartbeats 3200000 in
theorem turn_any (own : Nat → Nat) (A h : Nat) (r : TabR) (p : Nat) (e : V × V) (v : V) (w : World) (ht : TabAt own w A h r) (hcA : own A = 2) (he : r.t[p]? = some e) (hv : ValOk v) :
    Calls Tryz.prog 72 #[.pointer (some ⟨A, h * 6, none⟩), .int .i64 p, valV v] w fun en w' => en = .returned (.tuple #[]) ∧ TabAt own w' A h { r with t := setVal r.t p v } ∧ Only own A h w w' := by
  have hdead := dead_setVal he v
  have hdl : deadN r.t ≤ 32 := by have := ht.rep.inv.len; have : deadN r.t ≤ r.t.length := List.countP_le_length; omega
  have hp : p < r.t.length := (List.getElem?_eq_some_iff.1 he).1
  have hl32 := ht.rep.inv.len
  have c := fun j hj => flat6 entC entC_len r.t p e he j hj
  obtain ⟨g, cap, hvo, hgc, hg, _⟩ := row_cell ht.rep.ord (c 3 (by omega))
  have hgA : ¬ g = A := by intro e2; have := ht.rep.ordc g (by rw [hvo]; rfl); rw [e2, hcA] at this; omega
  have HCELLS : Hid (∀ W, Below w.heap.size w W → W.cell? ⟨A, h * 6, none⟩ = some (.slice (some ⟨g, 0, none⟩) r.t.length cap) ∧ W.cell? ⟨A, h * 6 + 5, none⟩ = some (.int .i64 (deadN r.t)) ∧ (∀ j, W.frozen? ⟨A, j, none⟩ = false) ∧ W.cell? ⟨g, p * 6 + 3, none⟩ = some (.int .i64 e.2.T) ∧ W.cell? ⟨g, p * 6 + 4, none⟩ = some (.int .u64 e.2.N) ∧ W.cell? ⟨g, p * 6 + 5, none⟩ = some (.string ⟨e.2.S.toArray⟩) ∧ (∀ j, W.frozen? ⟨g, j, none⟩ = false) ∧ A < W.heap.size ∧ g < W.heap.size) := by
    intro W hW
    have hT := ht.below hW
    have k : ∀ j, j < 6 → ∀ x, (entC e)[j]? = some x → W.cell? ⟨g, p * 6 + j, none⟩ = some x := by
      intro j hj x hx
      obtain ⟨g', cap', hv', _, _, k1⟩ := row_cell hT.rep.ord ((c j hj).trans hx)
      rw [hvo] at hv'
      cases hv'
      exact k1
    refine ⟨by rw [← hvo]; exact hT.c0, hT.c5, hT.fz, k 3 (by omega) _ rfl, k 4 (by omega) _ rfl, k 5 (by omega) _ rfl, ?_, hT.lt, by have := hW.size; omega⟩
    have ho := hT.rep.ord
    rw [hvo] at ho
    exact row_frozen ho
  have HT : Hid (TabAt own w A h r) := ht
  have N1 := fun w => isNil_any e.2 w
  have N2 := fun w => isNil_any v w
  have HE : Hid (r.t[p]? = some e) := he
  have HVO : Hid (r.vo = .slice (some ⟨g, 0, none⟩) r.t.length cap) := hvo
  have HVOK : Hid (ValOk v) := hv
  have HCA : Hid (own A = 2) := hcA
  have lA := ht.lt
  have hne : ¬ A = w.heap.size := by omega
  have hne2 : ¬ g = w.heap.size := by omega
  have HDEAD : Hid (deadN (setVal r.t p v) + (if isNilB e.2 then 1 else 0) = deadN r.t + (if isNilB v then 1 else 0)) := hdead
  have hfin : Hid (∀ W W3, Below w.heap.size w W → ((W3 = W ∧ deadN (setVal r.t p v) = deadN r.t) ∨ W3 = W.setCell ⟨A, h * 6 + 5, none⟩ (.int .i64 (deadN (setVal r.t p v)))) → TabAt own (set3 W3 g p v) A h { r with t := setVal r.t p v } ∧ Only own A h w (set3 W3 g p v)) := by
    intro W W3 hW h3
    obtain ⟨q1, q2⟩ := tab_turned (ht.below hW) hcA he hv h3 hvo
    exact ⟨q1, (Only.of_below hW ht.lt).trans q2 (fun _ _ => rfl)⟩
  obtain ⟨a0, a5, afz, g3, g4, g5, gfz, _, _⟩ := HCELLS.out _ (below_one w (.cells #[.int .i64 v.T, .int .u64 v.N, .string ⟨v.S.toArray⟩] 33))
  generalize hd1 : deadN (setVal r.t p v) = d1 at *
  generalize hd0 : deadN r.t = d0 at *
  generalize isNilB e.2 = b1 at *
  generalize isNilB v = b2 at *
  generalize r.t.length = tl at *
  obtain ⟨ek, ⟨eT, eN, eS⟩⟩ := e
  obtain ⟨vT, vN, vS⟩ := v
  simp only [valV_mk] at *
  clear ht hdead he hvo hv hcA c hd1 hd0
  go_enter Tryz.func72, Tryz.ntmps72
  go_wp2_with fail
  refine (N1 _).mono ?_; rintro en w1 ⟨rfl, hb1⟩
  obtain ⟨k0, k1, k2⟩ := box_cells hb1
  have hB1 := below_two (below_one _ _) hb1
  have HB1 : Hid (Below w.heap.size w w1) := hB1
  have hs1 : w.heap.size < w1.heap.size := by have := hb1.size; simp at this; omega
  clear hb1 hB1 a0 a5 afz g3 g4 g5 gfz N1
  go_wp2_with fail
  refine (N2 _).mono ?_; rintro en w2 ⟨rfl, hb2⟩
  have hB2 := below_two HB1.out hb2
  have HB2 : Hid (Below w.heap.size w w2) := hB2
  obtain ⟨a0, a5, afz, g3, g4, g5, gfz, lA2, lg2⟩ := HCELLS.out w2 hB2
  have k0 := (hb2.cell (p := ⟨w.heap.size, 0, none⟩) hs1).trans k0
  have k1 := (hb2.cell (p := ⟨w.heap.size, 1, none⟩) hs1).trans k1
  have k2 := (hb2.cell (p := ⟨w.heap.size, 2, none⟩) hs1).trans k2
  have f5 := afz (h * 6 + 5)
  have f3g := gfz (p * 6 + 3)
  have f4g := gfz (p * 6 + 4)
  have f5g := gfz (p * 6 + 5)
  clear hb2 hB2 N2 afz gfz
  cases b1 <;> cases b2
  · have hq := hfin.out w2 w2 HB2.out (.inl ⟨rfl, by have := HDEAD.out; simp at this; omega⟩)
    have HQ : Hid (TabAt own _ A h _ ∧ Only own A h w _) := hq
    clear hq
    go_wp2_with fail
    go_region
    all_goals
      go_end0
      exact ⟨rfl, HQ.out.1.heap rfl, HQ.out.2.drew⟩
  · have hd : d1 = d0 + 1 := by have := HDEAD.out; simp at this; omega
    subst hd
    have hq := hfin.out w2 (w2.setCell ⟨A, h * 6 + 5, none⟩ (.int .i64 ((d0 : Int) + 1))) HB2.out (.inr rfl)
    have HQ : Hid (TabAt own _ A h _ ∧ Only own A h w _) := hq
    clear hq
    go_wp2_with fail
    go_region
    all_goals
      go_end0
      exact ⟨rfl, HQ.out.1.heap rfl, HQ.out.2.drew⟩
  · have hd : d0 = d1 + 1 := by have := HDEAD.out; simp at this; omega
    subst hd
    have hq := hfin.out w2 (w2.setCell ⟨A, h * 6 + 5, none⟩ (.int .i64 (d1 : Int))) HB2.out (.inr rfl)
    have HQ : Hid (TabAt own _ A h _ ∧ Only own A h w _) := hq
    clear hq
    go_wp2_with fail
    go_region
    all_goals
      go_end0
      exact ⟨rfl, HQ.out.1.heap rfl, HQ.out.2.drew⟩
  · have hq := hfin.out w2 w2 HB2.out (.inl ⟨rfl, by have := HDEAD.out; simp at this; omega⟩)
    have HQ : Hid (TabAt own _ A h _ ∧ Only own A h w _) := hq
    clear hq
    go_wp2_with fail
    go_region
    all_goals
      go_end0
      exact ⟨rfl, HQ.out.1.heap rfl, HQ.out.2.drew⟩
end Go.Proofs.Qxb6500293aGreatRR
