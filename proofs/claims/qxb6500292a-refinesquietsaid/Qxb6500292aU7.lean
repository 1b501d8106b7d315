import Derived.Test.Qxb6500292aU6
namespace Go.Proofs.Qxb6500292a
open Go.RowKit
open Ieee (double)
set_option linter.unusedVariables false
set_option linter.unusedSimpArgs false

theorem pair_setVal {w : World} {t : Tbl} {g cap p : Nat} {e : V × V} (h : w.ownsRow 0 111 6 (.slice (some ⟨g, 0, none⟩) t.length cap) t.length (ordC t)) (he : t[p]? = some e) (v : V) :
    (((w.setCell ⟨g, p * 6 + 3, none⟩ (.int .i64 v.T)).setCell ⟨g, p * 6 + 4, none⟩ (.int .u64 v.N)).setCell ⟨g, p * 6 + 5, none⟩ (.string ⟨v.S.toArray⟩)).ownsRow 0 111 6 (.slice (some ⟨g, 0, none⟩) t.length cap) (setVal t p v).length (ordC (setVal t p v)) := by
  obtain ⟨cur, hb, hs, hn, hm, hl, hx⟩ := ownsRow_at h
  have hp := (List.getElem?_eq_some_iff.1 he).1
  rw [setVal_len]
  refine ownsRow_mk (heap_setCell_same (heap_setCell_same (heap_setCell_same hb _) _) _) (by simpa using hs) hn hm (by rw [ordC_len, setVal_len]) ?_
  intro i hi
  obtain ⟨q, j, hj, rfl⟩ : ∃ q j, j < 6 ∧ i = q * 6 + j := ⟨i / 6, i % 6, Nat.mod_lt _ (by decide), by omega⟩
  have hq : q < t.length := by omega
  have hold := flat6 entC entC_len t q t[q] (List.getElem?_eq_getElem hq) j hj
  have hc := hx _ hi
  rw [show ordC t = t.flatMap entC from rfl, hold] at hc
  have hnew := flat6 entC entC_len (setVal t p v) q (if p = q then (e.1, v) else t[q]) (by rw [setVal_at he]; split; rfl; exact List.getElem?_eq_getElem hq) j hj
  rw [show ordC (setVal t p v) = (setVal t p v).flatMap entC from rfl, hnew]
  simp only [Array.getElem?_setIfInBounds, Array.size_setIfInBounds]
  have hsz : p * 6 + 5 < cur.size := by rw [hs]; omega
  by_cases c : p = q
  · subst c
    have hte : t[p] = e := by simpa [List.getElem?_eq_getElem hp] using he
    rw [hte] at hc
    rw [if_pos rfl]
    rcases (by omega : j = 0 ∨ j = 1 ∨ j = 2 ∨ j = 3 ∨ j = 4 ∨ j = 5) with rfl | rfl | rfl | rfl | rfl | rfl
    · simpa [entC] using hc
    · simpa [entC] using hc
    · simpa [entC] using hc
    · simp [entC]; omega
    · simp [entC]; omega
    · simp [entC]; omega
  · rw [if_neg c]
    rw [if_neg (by omega), if_neg (by omega), if_neg (by omega)]
    exact hc

/-- One row turned. -/
theorem mod_row {own own' : Nat → Nat} {w w' : World} {y : Nat} {st : List Tbl} {np vt : Value} {vs vs' : List Value} (H : ModAt own w y st) (hs : ModS w' y np vt) {i : Nat} {t' : Tbl} (hi : i < st.length)
    (hrow : w'.ownsRow 0 110 1 vt st.length vs') (hvc : ∀ g, vt.ownBlock = some g → own' g = 102) (hrows : ∀ h t, st[h]? = some t → ∃ v, vs[h]? = some v ∧ w.ownsRow 0 111 6 v t.length (ordC t) ∧ ∀ g, v.ownBlock = some g → own g = 110 + h)
    (hsame : ∀ h, h ≠ i → vs'[h]? = vs[h]?) {v' : Value} (hv' : vs'[i]? = some v') (hr' : w'.ownsRow 0 111 6 v' t'.length (ordC t')) (hc' : ∀ g, v'.ownBlock = some g → own' g = 110 + i)
    (hk : ∀ k, k < w.heap.size → 110 ≤ own k → own k < 130 → own k ≠ 110 + i → w'.heap[k]? = w.heap[k]?) (ho : ∀ k, k < w.heap.size → own' k = own k) : ModAt own' w' y (st.set i t') := by
  have hm := H.max
  refine ⟨⟨np, vt, vs', hs, by rw [List.length_set]; exact hrow, hvc, ?_⟩, (ho y H.lt).trans H.yc, by rw [List.length_set]; exact hm⟩
  intro h t ht
  rw [List.getElem?_set] at ht
  by_cases c : i = h
  · subst c
    rw [if_pos rfl, if_pos hi] at ht
    cases ht
    exact ⟨v', hv', hr', hc'⟩
  · rw [if_neg c] at ht
    have hh : h < st.length := (List.getElem?_eq_some_iff.1 ht).1
    obtain ⟨v, h1, h2, h3⟩ := hrows h t ht
    exact ⟨v, by rw [hsame h (Ne.symm c)]; exact h1, ownsRow_block h2 (fun g hg => hk g (ownsRow_lt h2 g hg) (by rw [h3 g hg]; omega) (by rw [h3 g hg]; omega) (by rw [h3 g hg]; omega)), fun g hg => (ho g (ownsRow_lt h2 g hg)).trans (h3 g hg)⟩
/-- A value laid over another. -/
theorem mset_turned {own : Nat → Nat} {w w3 : World} {y : Nat} {st : List Tbl} (H : ModAt own w y st) (hb : Below w.heap.size w w3) {i : Nat} {t : Tbl} (hst : st[i]? = some t) {G sl cG g cR p : Nat} {e : V × V} (hrow : MRow w3 y G sl cG i (some ⟨g, 0, none⟩) t cR) (he : t[p]? = some e) (v : V) :
    MEnd own w y (st.set i (setVal t p v)) (((w3.setCell ⟨g, p * 6 + 3, none⟩ (.int .i64 v.T)).setCell ⟨g, p * 6 + 4, none⟩ (.int .u64 v.N)).setCell ⟨g, p * 6 + 5, none⟩ (.string ⟨v.S.toArray⟩)) ∧
    w3.frozen? ⟨g, p * 6 + 3, none⟩ = false ∧ w3.frozen? ⟨g, p * 6 + 4, none⟩ = false ∧ w3.frozen? ⟨g, p * 6 + 5, none⟩ = false := by
  have H3 := H.below hb
  have hi : i < st.length := (List.getElem?_eq_some_iff.1 hst).1
  obtain ⟨np, vt, vs, hs, hr, hvc, hrows⟩ := H3.tabs
  obtain ⟨v0, h1, h2, h3⟩ := hrows i t hst
  obtain ⟨G', cG', hvt, hl, hG, k⟩ := row_cell hr h1
  have e1 := hs.c1
  rw [hvt, hrow.c1] at e1
  cases e1
  have e2 := k
  rw [hrow.r] at e2
  cases e2
  have hg3 := ownsRow_lt h2 g rfl
  have hcg := h3 g rfl
  have hm := H.max
  have hoth : ∀ k, k ≠ g → (((w3.setCell ⟨g, p * 6 + 3, none⟩ (.int .i64 v.T)).setCell ⟨g, p * 6 + 4, none⟩ (.int .u64 v.N)).setCell ⟨g, p * 6 + 5, none⟩ (.string ⟨v.S.toArray⟩)).heap[k]? = w3.heap[k]? := fun k hk => (Below.heap_setCell _ _ _ _ hk).trans ((Below.heap_setCell _ _ _ _ hk).trans (Below.heap_setCell _ _ _ _ hk))
  have hgw : g < w.heap.size ∨ w.heap.size ≤ g := by omega
  refine ⟨⟨own, fun _ _ => rfl, ?_, ⟨hb.os, hb.tape, hb.output, by simpa using hb.size, fun k hk hn => (hoth k (by rintro rfl; exact hn (by rw [hcg]; omega))).trans (hb.block k hk)⟩⟩, row_frozen h2 _, row_frozen h2 _, row_frozen h2 _⟩
  refine mod_row (vs := vs) (vs' := vs) H3 (hs.kept (hoth y (by rintro rfl; have := H.yc; omega)) (by simp)) hi (ownsRow_block hr (fun k hk => hoth k (by rintro rfl; have := hvc _ hk; omega))) hvc hrows (fun _ _ => rfl) h1 (pair_setVal h2 he v) h3 (fun k hk _ _ hn => hoth k (by rintro rfl; exact hn hcg)) (fun _ _ => rfl)
/-- A pair more. -/
theorem mset_grown {own : Nat → Nat} {w w6 w7 : World} {y : Nat} {st : List Tbl} (H : ModAt own w y st) (hb : Below w.heap.size w w6) {i : Nat} {t : Tbl} (hst : st[i]? = some t) {G sl cG cR : Nat} {ad : Option Addr} (hrow : MRow w6 y G sl cG i ad t cR) {k v : V} {g c : Nat}
    (hr7 : w7.ownsRow 0 111 6 (.slice (some ⟨g, 0, none⟩) (t.length + 1) c) (t.length + 1) (ordC t ++ entC (k, v))) (hg7 : w6.grownBy w7 (Value.slice ad t.length cR).ownBlock) (hgw : (Value.slice ad t.length cR).ownBlock = some g ∨ g = w6.heap.size + 1) :
    MEnd own w y (st.set i (t ++ [(k, v)])) (w7.setCell ⟨G, i, none⟩ (.slice (some ⟨g, 0, none⟩) (t.length + 1) c)) ∧ w7.cell? ⟨y, 1, none⟩ = some (.slice (some ⟨G, 0, none⟩) sl cG) ∧ w7.frozen? ⟨G, i, none⟩ = false ∧ w7.cell? ⟨G, i, none⟩ = some (.slice ad t.length cR) := by
  have H6 := H.below hb
  have hi : i < st.length := (List.getElem?_eq_some_iff.1 hst).1
  obtain ⟨np, vt, vs, hs, hr, hvc, hrows⟩ := H6.tabs
  obtain ⟨v0, h1, h2, h3⟩ := hrows i t hst
  obtain ⟨G', cG', hvt, hl, hG, kk⟩ := row_cell hr h1
  have e1 := hs.c1
  rw [hvt, hrow.c1] at e1
  cases e1
  have e2 := kk
  rw [hrow.r] at e2
  cases e2
  have hm := H.max
  have hcG : own G = 102 := hvc G (by rw [hvt]; rfl)
  have hvG : (Value.slice ad t.length cR).ownBlock ≠ some G := fun e => by have := h3 G e; omega
  have hyc := H.yc
  have hvy : (Value.slice ad t.length cR).ownBlock ≠ some y := fun e => by have := h3 y e; omega
  have hyG : y ≠ G := by rintro rfl; omega
  have hlG := ownsRow_lt hr G (by rw [hvt]; rfl)
  have hgG : g ≠ G := by
    rcases hgw with e | e
    · rintro rfl; exact hvG e
    · omega
  have hG7 : w7.heap[G]? = w6.heap[G]? := hg7.block G hlG (Ne.symm hvG)
  have hy7 : w7.heap[y]? = w6.heap[y]? := hg7.block y hs.lt (Ne.symm hvy)
  have hold : ∀ k, k < w6.heap.size → k ≠ G → (Value.slice ad t.length cR).ownBlock ≠ some k → (w7.setCell ⟨G, i, none⟩ (.slice (some ⟨g, 0, none⟩) (t.length + 1) c)).heap[k]? = w6.heap[k]? := fun k hk h1 h2 => (Below.heap_setCell _ _ _ _ h1).trans (hg7.block k hk (Ne.symm h2))
  obtain ⟨own', hown'⟩ : ∃ own' : Nat → Nat, own' = fun k => if k = g ∧ w6.heap.size ≤ k then 110 + i else own k := ⟨_, rfl⟩
  have ho : ∀ k, k < w6.heap.size → own' k = own k := by
    intro k hk
    rw [hown']
    dsimp only
    rw [if_neg (by omega)]
  have og : own' g = 110 + i := by
    rcases hgw with e | e
    · rw [ho g (ownsRow_lt h2 g e)]; exact h3 g e
    · rw [hown']; dsimp only; rw [if_pos ⟨rfl, by omega⟩]
  have hs6 := hb.size
  have hs7 := hg7.size
  refine ⟨⟨own', fun k hk => ho k (by omega), ?_, ⟨hg7.os.trans hb.os, hg7.tape.trans hb.tape, hg7.output.trans hb.output, by simp; omega, fun k hk hn => (hold k (by omega) (by rintro rfl; exact hn (by rw [hcG]; omega)) (fun e => hn (by rw [h3 k e]; omega))).trans (hb.block k hk)⟩⟩, ?_, ?_, ?_⟩
  · obtain ⟨cur, cb, cs, cn, cm, cl, cx⟩ := ownsRow_at (by rw [hvt] at hr; exact hr)
    refine mod_row (vs := vs) (vs' := vs.set i (.slice (some ⟨g, 0, none⟩) (t.length + 1) c)) H6 (np := np) (vt := vt) ?_ hi ?_ (fun k hk => (ho k (ownsRow_lt hr k hk)).trans (hvc k hk)) hrows (fun h hn => by rw [List.getElem?_set_ne (Ne.symm hn)]) (v' := .slice (some ⟨g, 0, none⟩) (t.length + 1) c) ?_ ?_ ?_ ?_ ho
    · exact hs.kept (hold y hs.lt hyG hvy) (by simp; omega)
    · rw [hvt]
      refine ownsRow_mk (cur := cur.setIfInBounds i (.slice (some ⟨g, 0, none⟩) (t.length + 1) c)) (heap_setCell_same (hG7.trans cb) _) (by simpa using cs) cn cm (by simpa using cl) ?_
      intro j hj
      have := cx j hj
      rw [Array.getElem?_setIfInBounds, List.getElem?_set]
      by_cases cc : i = j
      · subst cc
        have hlv : i < vs.length := by rw [cl]; omega
        rw [if_pos rfl, if_pos rfl, if_pos hlv, if_pos (by rw [cs]; omega)]
      · rw [if_neg cc, if_neg cc]; exact this
    · rw [List.getElem?_set, if_pos rfl, if_pos (by rw [cl]; omega)]
    · rw [ordC_snoc, List.length_append, List.length_singleton]
      exact ownsRow_block hr7 (fun k hk => by cases hk; exact Below.heap_setCell _ _ _ _ hgG)
    · intro k hk
      cases hk
      exact og
    · intro k hk h4 h5 h6
      exact hold k hk (by rintro rfl; omega) (fun e => h6 (h3 k e))
  · exact (World.cell?_of_block (a := ⟨y, 1, none⟩) hy7).trans hrow.c1
  · exact (World.frozen?_of_block (a := ⟨G, i, none⟩) hG7).trans (row_frozen (by rw [hvt] at hr; exact hr) i)
  · exact (World.cell?_of_block (a := ⟨G, i, none⟩) hG7).trans hrow.r
end Go.Proofs.Qxb6500292a
