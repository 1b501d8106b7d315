import Derived.Test.Qxb6500293aGreatRRT24
namespace Go.Proofs.Qxb6500293aGreatRR
open Go.RowKit
open Ieee (double)
set_option linter.unusedVariables false
set_option linter.unusedSimpArgs false

/-- THE MODEL's struct: the number layer, the rows. -/
structure ModS (w : World) (y : Nat) (np vt : Value) : Prop where
  c0 : w.cell? ⟨y, 0, none⟩ = some np
  c1 : w.cell? ⟨y, 1, none⟩ = some vt
  fz : ∀ j, w.frozen? ⟨y, j, none⟩ = false
  lt : y < w.heap.size
/-- ALL TABLES OF THE MODEL. -/
structure ModAt (own : Nat → Nat) (w : World) (y : Nat) (st : List Tbl) : Prop where
  tabs : ∃ (np vt : Value) (vs : List Value), ModS w y np vt ∧ w.ownsRow 0 110 1 vt st.length vs ∧ (∀ g, vt.ownBlock = some g → own g = 102) ∧
    ∀ h t, st[h]? = some t → ∃ v, vs[h]? = some v ∧ w.ownsRow 0 111 6 v t.length (ordC t) ∧ ∀ g, v.ownBlock = some g → own g = 110 + h
  yc : own y = 101
  max : st.length ≤ 12
theorem ModS.kept {w w' : World} {y : Nat} {np vt : Value} (h : ModS w y np vt) (e : w'.heap[y]? = w.heap[y]?) (hs : w.heap.size ≤ w'.heap.size) : ModS w' y np vt := by
  obtain ⟨c0, c1, fz, lt⟩ := h
  have hc : ∀ j, w'.cell? ⟨y, j, none⟩ = w.cell? ⟨y, j, none⟩ := fun j => World.cell?_of_block (a := ⟨y, j, none⟩) e
  have hf : ∀ j, w'.frozen? ⟨y, j, none⟩ = w.frozen? ⟨y, j, none⟩ := fun j => World.frozen?_of_block (a := ⟨y, j, none⟩) e
  exact ⟨(hc 0).trans c0, (hc 1).trans c1, fun j => (hf j).trans (fz j), by omega⟩
theorem ModAt.kept {own own' : Nat → Nat} {w w' : World} {y : Nat} {st : List Tbl} (H : ModAt own w y st) (hs : w.heap.size ≤ w'.heap.size) (hk : ∀ k, k < w.heap.size → 101 ≤ own k → own k < 130 → w'.heap[k]? = w.heap[k]?) (ho : ∀ k, k < w.heap.size → own' k = own k) : ModAt own' w' y st := by
  obtain ⟨np, vt, vs, h1, h2, h3, h4⟩ := H.tabs
  have hm := H.max
  refine ⟨⟨np, vt, vs, h1.kept (hk _ h1.lt (by rw [H.yc]; omega) (by rw [H.yc]; omega)) hs, ownsRow_block h2 (fun g hg => hk g (ownsRow_lt h2 g hg) (by rw [h3 g hg]; omega) (by rw [h3 g hg]; omega)), fun g hg => (ho g (ownsRow_lt h2 g hg)).trans (h3 g hg), ?_⟩, (ho y h1.lt).trans H.yc, H.max⟩
  intro h t ht
  obtain ⟨v, a, b, c⟩ := h4 h t ht
  have hh : h < st.length := (List.getElem?_eq_some_iff.1 ht).1
  exact ⟨v, a, ownsRow_block b (fun g hg => hk g (ownsRow_lt b g hg) (by rw [c g hg]; omega) (by rw [c g hg]; omega)), fun g hg => (ho g (ownsRow_lt b g hg)).trans (c g hg)⟩
theorem ModAt.below {own : Nat → Nat} {w w' : World} {y : Nat} {st : List Tbl} (H : ModAt own w y st) (hb : Below w.heap.size w w') : ModAt own w' y st :=
  H.kept hb.size (fun k hk _ _ => hb.block k hk) (fun _ _ => rfl)
theorem ModAt.lt {own : Nat → Nat} {w : World} {y : Nat} {st : List Tbl} (H : ModAt own w y st) : y < w.heap.size := by
  obtain ⟨np, vt, vs, h1, _⟩ := H.tabs; exact h1.lt
/-- Row h as the walk meets it. -/
structure MRow (w : World) (y G sl cG h : Nat) (ad : Option Addr) (t : Tbl) (cR : Nat) : Prop where
  c1 : w.cell? ⟨y, 1, none⟩ = some (.slice (some ⟨G, 0, none⟩) sl cG)
  r : w.cell? ⟨G, h, none⟩ = some (.slice ad t.length cR)
  ent : ∀ p e, t[p]? = some e → ∃ g, ad = some ⟨g, 0, none⟩ ∧ g < w.heap.size ∧ t.length ≤ cR ∧ w.cell? ⟨g, p * 6, none⟩ = some (.int .i64 e.1.T) ∧ w.cell? ⟨g, p * 6 + 1, none⟩ = some (.int .u64 e.1.N) ∧ w.cell? ⟨g, p * 6 + 2, none⟩ = some (.string ⟨e.1.S.toArray⟩) ∧ w.cell? ⟨g, p * 6 + 3, none⟩ = some (.int .i64 e.2.T) ∧ w.cell? ⟨g, p * 6 + 4, none⟩ = some (.int .u64 e.2.N) ∧ w.cell? ⟨g, p * 6 + 5, none⟩ = some (.string ⟨e.2.S.toArray⟩)
  ly : y < w.heap.size
  lG : G < w.heap.size
theorem row_ents {w : World} {e : TypeId} {v : Value} {t : Tbl} (h : w.ownsRow 0 e 6 v t.length (ordC t)) : ∃ ad cR, v = .slice ad t.length cR ∧ ∀ p en, t[p]? = some en → ∃ g, ad = some ⟨g, 0, none⟩ ∧ g < w.heap.size ∧ t.length ≤ cR ∧ w.cell? ⟨g, p * 6, none⟩ = some (.int .i64 en.1.T) ∧ w.cell? ⟨g, p * 6 + 1, none⟩ = some (.int .u64 en.1.N) ∧ w.cell? ⟨g, p * 6 + 2, none⟩ = some (.string ⟨en.1.S.toArray⟩) ∧ w.cell? ⟨g, p * 6 + 3, none⟩ = some (.int .i64 en.2.T) ∧ w.cell? ⟨g, p * 6 + 4, none⟩ = some (.int .u64 en.2.N) ∧ w.cell? ⟨g, p * 6 + 5, none⟩ = some (.string ⟨en.2.S.toArray⟩) := by
  obtain ⟨ad, cR, hv⟩ := row_slice h
  refine ⟨ad, cR, hv, fun p en hp => ?_⟩
  have c := fun j hj => flat6 entC entC_len t p en hp j hj
  obtain ⟨g, c0, hv0, hl, hg, k0⟩ := row_cell h (c 0 (by omega))
  rw [hv] at hv0
  cases hv0
  have kk : ∀ j, j < 6 → ∀ x, (entC en)[j]? = some x → w.cell? ⟨g, p * 6 + j, none⟩ = some x := by
    intro j hj x hx
    obtain ⟨g', c', hv', _, _, k1⟩ := row_cell h ((c j hj).trans hx)
    rw [hv] at hv'
    cases hv'
    exact k1
  exact ⟨g, rfl, hg, hl, k0, kk 1 (by omega) _ rfl, kk 2 (by omega) _ rfl, kk 3 (by omega) _ rfl, kk 4 (by omega) _ rfl, kk 5 (by omega) _ rfl⟩
theorem ModAt.row {own : Nat → Nat} {w : World} {y : Nat} {st : List Tbl} (H : ModAt own w y st) {h : Nat} {t : Tbl} (ht : st[h]? = some t) : ∃ G cG ad cR, MRow w y G st.length cG h ad t cR := by
  obtain ⟨np, vt, vs, h1, h2, h3, h4⟩ := H.tabs
  obtain ⟨v, a, b, c⟩ := h4 h t ht
  obtain ⟨G, cG, hvt, hl, hG, k⟩ := row_cell h2 a
  obtain ⟨ad, cR, rfl, hent⟩ := row_ents b
  have := h1.c1
  rw [hvt] at this
  exact ⟨G, cG, ad, cR, this, k, hent, h1.lt, hG⟩
theorem MRow.below {w w' : World} {y G sl cG h : Nat} {ad : Option Addr} {t : Tbl} {cR : Nat} (H : MRow w y G sl cG h ad t cR) (hb : Below w.heap.size w w') : MRow w' y G sl cG h ad t cR := by
  have hs := hb.size
  refine ⟨(hb.cell (p := ⟨y, 1, none⟩) H.ly).trans H.c1, (hb.cell (p := ⟨G, h, none⟩) H.lG).trans H.r, fun p e he => ?_, by have := H.ly; omega, by have := H.lG; omega⟩
  obtain ⟨g, e1, e2, e3, k0, k1, k2, k3, k4, k5⟩ := H.ent p e he
  exact ⟨g, e1, by omega, e3, (hb.cell (p := ⟨g, p * 6, none⟩) e2).trans k0, (hb.cell (p := ⟨g, p * 6 + 1, none⟩) e2).trans k1, (hb.cell (p := ⟨g, p * 6 + 2, none⟩) e2).trans k2, (hb.cell (p := ⟨g, p * 6 + 3, none⟩) e2).trans k3, (hb.cell (p := ⟨g, p * 6 + 4, none⟩) e2).trans k4, (hb.cell (p := ⟨g, p * 6 + 5, none⟩) e2).trans k5⟩
/-- Every table is as the real side keeps it. -/
def GoodSt (st : List Tbl) : Prop := ∀ t ∈ st, ∃ a, Inv t a
theorem GoodSt.at {st : List Tbl} (h : GoodSt st) {i : Nat} {t : Tbl} (ht : st[i]? = some t) : ∃ a, Inv t a := h t (List.mem_of_getElem? ht)
theorem RealAt.good {own : Nat → Nat} {w : World} {x : Nat} {reps : List TabR} {count : Nat} (H : RealAt own w x reps count) : GoodSt (stOf reps count) := by
  intro t ht
  unfold stOf at ht
  rw [List.mem_map] at ht
  obtain ⟨r, hr, rfl⟩ := ht
  obtain ⟨i, hi⟩ := List.getElem?_of_mem (List.mem_of_mem_take hr)
  exact ⟨r.a, (H.rep i r hi).1.inv⟩
section
attribute [local simp] eqV_iff eqV_no eqV_self
theorem idx_first {t : Tbl} {k : V} {p : Nat} {e : V × V} (h1 : t[p]? = some e) (h2 : e.1 = k) (h3 : ∀ q e', q < p → t[q]? = some e' → e'.1 ≠ k) : idx t k = some p := by
  unfold idx
  rw [List.findIdx?_eq_some_iff_getElem]
  obtain ⟨hp, e1⟩ := List.getElem?_eq_some_iff.1 h1
  refine ⟨hp, by simp [e1, h2], ?_⟩
  intro j hj
  have := h3 j _ hj (List.getElem?_eq_getElem (by omega))
  simpa using this
theorem idx_no {t : Tbl} {k : V} (h : ∀ q e', q < t.length → t[q]? = some e' → e'.1 ≠ k) : idx t k = none := by
  unfold idx
  rw [List.findIdx?_eq_none_iff]
  intro e he
  obtain ⟨q, hq⟩ := List.getElem?_of_mem he
  have := h q e (List.getElem?_eq_some_iff.1 hq).1 hq
  simpa using this
end
end Go.Proofs.Qxb6500293aGreatRR
