/-
  THE GHOST TURNED, IN MEMORY.
-/
import Derived.Test.Qxb6500292aK4
namespace Go.Proofs.Qxb6500292a
open Go.RowKit
open Ieee (double)
set_option linter.unusedVariables false
set_option linter.unusedSimpArgs false

/-- Nothing but the ghost's blocks has turned. -/
structure ChgG (own : Nat → Nat) (w w' : World) : Prop where
  os : w'.os = w.os
  tape : w'.tape = w.tape
  output : w'.output = w.output
  size : w.heap.size ≤ w'.heap.size
  block : ∀ k, k < w.heap.size → ¬ (300 ≤ own k ∧ own k < 302) → w'.heap[k]? = w.heap[k]?
theorem ChgG.of_below {own : Nat → Nat} {w w' : World} (h : Below w.heap.size w w') : ChgG own w w' := ⟨h.os, h.tape, h.output, h.size, fun k hk _ => h.block k hk⟩
/-- What a turn of the ghost leaves. -/
def GEnd (own : Nat → Nat) (w : World) (g : Nat) (st' : List Tbl) (gs' : Gs) (w' : World) : Prop := ∃ own', (∀ k, k < w.heap.size → own' k = own k) ∧ GhAt own' w' g st' gs' ∧ ChgG own w w'
theorem GEnd.same {own : Nat → Nat} {w w' : World} {g : Nat} {st : List Tbl} {gs : Gs} (H : GhAt own w g st gs) (hb : Below w.heap.size w w') : GEnd own w g st gs w' := ⟨own, fun _ _ => rfl, H.below hb, ChgG.of_below hb⟩
theorem GEnd.drew {own : Nat → Nat} {w w' : World} {g : Nat} {st : List Tbl} {gs : Gs} (h : GEnd own w g st gs w') : GEnd own w g st gs w'.drew := by
  obtain ⟨own', h1, h2, h3⟩ := h
  exact ⟨own', h1, h2.below (Below.drew (Below.refl _ _)), ⟨h3.os, h3.tape, h3.output, h3.size, h3.block⟩⟩
def cC (st : List Tbl) : List Value := (List.range 12).map (fun h => Value.int .i64 ((st[h]?.getD []).length : Int))
theorem ghC_mk (st : List Tbl) (vs : Value) : ghC st vs = .int .i64 (st.length : Int) :: (cC st ++ [vs]) := rfl
theorem cC_len (st : List Tbl) : (cC st).length = 12 := by simp [cC]
theorem cC_make (st : List Tbl) : cC (st ++ [[]]) = cC st := by
  unfold cC
  apply List.map_congr_left
  intro h _
  rcases Nat.lt_trichotomy h st.length with c | c | c
  · rw [List.getElem?_append_left c]
  · subst c
    rw [List.getElem?_append_right (Nat.le_refl _), Nat.sub_self, List.getElem?_eq_none (Nat.le_refl _)]
    rfl
  · rw [List.getElem?_append_right (by omega), List.getElem?_eq_none (by simp; omega), List.getElem?_eq_none (by omega)]
theorem cC_set {st : List Tbl} {i : Nat} {t' : Tbl} (hi : i < st.length) : cC (st.set i t') = (cC st).set i (.int .i64 (t'.length : Int)) := by
  apply List.ext_getElem?
  intro h
  rw [List.getElem?_set, cC_len]
  unfold cC
  rw [List.getElem?_map, List.getElem?_map]
  by_cases c : h < 12
  · rw [List.getElem?_range c]
    by_cases e : i = h
    · subst e
      rw [if_pos rfl, if_pos c]
      simp [hi]
    · rw [if_neg e]
      simp [List.getElem?_set_ne e]
  · rw [List.getElem?_eq_none (by simp; omega)]
    by_cases e : i = h
    · subst e; rw [if_pos rfl, if_neg c]; rfl
    · rw [if_neg e]; rfl
theorem cC_same {st : List Tbl} {i : Nat} {t t' : Tbl} (ht : st[i]? = some t) (hl : t'.length = t.length) : cC (st.set i t') = cC st := by
  have hi : i < st.length := (List.getElem?_eq_some_iff.1 ht).1
  rw [cC_set hi]
  apply List.ext_getElem?
  intro h
  rw [List.getElem?_set, cC_len]
  by_cases e : i = h
  · subst e
    rw [if_pos rfl]
    unfold cC
    rw [List.getElem?_map]
    by_cases c : i < 12
    · rw [List.getElem?_range c, if_pos c]
      simp [ht, hl]
    · rw [if_neg c, List.getElem?_eq_none (by simp; omega)]
      rfl
  · rw [if_neg e]
theorem ghC_set0 (st : List Tbl) (vs : Value) (x : Value) : (ghC st vs).toArray.setIfInBounds 0 x = (x :: (cC st ++ [vs])).toArray := by
  rw [List.setIfInBounds_toArray, ghC_mk]
  rfl
theorem ghC_set13 (x : Value) (c : List Value) (hc : c.length = 12) (vs v : Value) : (x :: (c ++ [vs])).toArray.setIfInBounds 13 v = (x :: (c ++ [v])).toArray := by
  rw [List.setIfInBounds_toArray, List.set_cons_succ, List.set_append_right _ _ (by omega), hc]
  rfl
theorem ghC_set1 (x : Value) (c : List Value) (vs v : Value) (i : Nat) (hi : i < c.length) : (x :: (c ++ [vs])).toArray.setIfInBounds (1 + i) v = (x :: (c.set i v ++ [vs])).toArray := by
  rw [List.setIfInBounds_toArray, Nat.add_comm, List.set_cons_succ, List.set_append_left _ _ hi]
section
variable {own : Nat → Nat} {w : World} {g : Nat} {st : List Tbl} {gs : Gs}
/-- A ghost whose struct alone has turned, the row being as it was. -/
theorem gh_struct {w1 : World} (H : GhAt own w g st gs) (hb : Below w.heap.size w w1) {wf : World} {st' : List Tbl} {gs' : Gs} {vs' : Value} (hoth : ∀ k, k < w1.heap.size → k ≠ g → wf.heap[k]? = w1.heap[k]?) (hos : wf.os = w1.os) (htp : wf.tape = w1.tape) (hou : wf.output = w1.output) (hsz : w1.heap.size ≤ wf.heap.size)
    (hg : wf.heap[g]? = some (.cells (ghC st' vs').toArray 38)) (hrow : wf.ownsRow 0 91 7 vs' gs'.length (gs'.flatMap slotC)) (hc : ∀ b, vs'.ownBlock = some b → own b = 301) (hrel : GRel st' gs') (hmax : st'.length ≤ 12) : GEnd own w g st' gs' wf := by
  refine ⟨own, fun _ _ => rfl, ⟨⟨vs', hg, hrow, hc⟩, H.gc, hrel, hmax⟩, ⟨hos.trans hb.os, htp.trans hb.tape, hou.trans hb.output, Nat.le_trans hb.size hsz, fun k hk hn => ?_⟩⟩
  have hs := hb.size
  exact (hoth k (by omega) (by rintro rfl; exact hn (by rw [H.gc]; omega))).trans (hb.block k hk)
theorem gh_make {w1 : World} (H : GhAt own w g st gs) (hb : Below w.heap.size w w1) (hf : st.length < 12) : GEnd own w g (st ++ [[]]) gs (w1.setCell ⟨g, 0, none⟩ (.int .i64 ((st.length : Int) + 1))) := by
  have H1 := H.below hb
  obtain ⟨vs, h1, h2, h3⟩ := H1.tabs
  refine gh_struct (vs' := vs) H hb (fun k _ hk => Below.heap_setCell _ _ _ _ hk) rfl rfl rfl (by simp) ?_ ?_ h3 (rel_make H.rel) (by simp; omega)
  · rw [heap_setCell_same h1, ghC_set0, ghC_mk, cC_make]
    simp
  · exact ownsRow_block h2 (fun b hb => Below.heap_setCell _ _ _ _ (by rintro rfl; have := h3 _ hb; have := H.gc; omega))
/-- One slot's value turned. -/
theorem slot_setVal {t : Gs} {b cap p : Nat} {s : Nat × (V × V)} (h : w.ownsRow 0 91 7 (.slice (some ⟨b, 0, none⟩) t.length cap) t.length (t.flatMap slotC)) (he : t[p]? = some s) (v : V) :
    (((w.setCell ⟨b, p * 7 + 4, none⟩ (.int .i64 v.T)).setCell ⟨b, p * 7 + 5, none⟩ (.int .u64 v.N)).setCell ⟨b, p * 7 + 6, none⟩ (.string ⟨v.S.toArray⟩)).ownsRow 0 91 7 (.slice (some ⟨b, 0, none⟩) t.length cap) (t.set p (s.1, (s.2.1, v))).length ((t.set p (s.1, (s.2.1, v))).flatMap slotC) := by
  obtain ⟨cur, hb, hs, hn, hm, hl, hx⟩ := ownsRow_at h
  have hp := (List.getElem?_eq_some_iff.1 he).1
  rw [List.length_set]
  have hlen : ∀ l : Gs, (l.flatMap slotC).length = l.length * 7 := by
    intro l
    induction l with
    | nil => rfl
    | cons a l ih => rw [List.flatMap_cons, List.length_append, ih, slotC_len, List.length_cons]; omega
  refine ownsRow_mk (heap_setCell_same (heap_setCell_same (heap_setCell_same hb _) _) _) (by simpa using hs) hn hm (by rw [hlen, List.length_set]) ?_
  intro i hi
  obtain ⟨q, j, hj, rfl⟩ : ∃ q j, j < 7 ∧ i = q * 7 + j := ⟨i / 7, i % 7, Nat.mod_lt _ (by decide), by omega⟩
  have hq : q < t.length := by omega
  have hold := flat7 slotC slotC_len t q t[q] (List.getElem?_eq_getElem hq) j hj
  have hc := hx _ hi
  rw [hold] at hc
  have hnew := flat7 slotC slotC_len (t.set p (s.1, (s.2.1, v))) q (if p = q then (s.1, (s.2.1, v)) else t[q]) (by rw [List.getElem?_set]; split; rfl; exact List.getElem?_eq_getElem hq) j hj
  rw [hnew]
  simp only [Array.getElem?_setIfInBounds, Array.size_setIfInBounds]
  have hsz : p * 7 + 6 < cur.size := by rw [hs]; omega
  by_cases c : p = q
  · subst c
    have hte : t[p] = s := by simpa [List.getElem?_eq_getElem hp] using he
    rw [hte] at hc
    rw [if_pos rfl]
    rcases (by omega : j = 0 ∨ j = 1 ∨ j = 2 ∨ j = 3 ∨ j = 4 ∨ j = 5 ∨ j = 6) with rfl | rfl | rfl | rfl | rfl | rfl | rfl
    · simpa [slotC] using hc
    · simpa [slotC] using hc
    · simpa [slotC] using hc
    · simpa [slotC] using hc
    · simp [slotC]; omega
    · simp [slotC]; omega
    · simp [slotC]; omega
  · rw [if_neg c]
    rw [if_neg (by omega), if_neg (by omega), if_neg (by omega)]
    exact hc
theorem gh_turned {w1 : World} (H : GhAt own w g st gs) (hb : Below w.heap.size w w1) {i h b cp : Nat} {t : Tbl} {k u : V} (ht : st[h]? = some t) (hs : gs[i]? = some (h, (k, u))) (hrow : GRow w1 g st gs (some ⟨b, 0, none⟩) cp) (v : V) :
    GEnd own w g (st.set h (setVal t (rank gs h i) v)) (gs.set i (h, (k, v))) (((w1.setCell ⟨b, i * 7 + 4, none⟩ (.int .i64 v.T)).setCell ⟨b, i * 7 + 5, none⟩ (.int .u64 v.N)).setCell ⟨b, i * 7 + 6, none⟩ (.string ⟨v.S.toArray⟩)) ∧
    w1.frozen? ⟨b, i * 7 + 4, none⟩ = false ∧ w1.frozen? ⟨b, i * 7 + 5, none⟩ = false ∧ w1.frozen? ⟨b, i * 7 + 6, none⟩ = false ∧ b < w.heap.size ∧ b ≠ g := by
  have H1 := H.below hb
  obtain ⟨vs, h1, h2, h3⟩ := H1.tabs
  obtain ⟨ad', cp', hv⟩ := row_slice h2
  have e1 : w1.cell? ⟨g, 13, none⟩ = some vs := by simp [World.cell?, h1, (ghC_at st vs).2.1]
  rw [hrow.cs] at e1
  cases e1
  have hbc := h3 b rfl
  have hgc := H.gc
  obtain ⟨vs0, h01, h02, h03⟩ := H.tabs
  have e2 := (hb.cell (p := ⟨g, 13, none⟩) H.lt).symm.trans hrow.cs
  have e3 : w.cell? ⟨g, 13, none⟩ = some vs0 := by simp [World.cell?, h01, (ghC_at st vs0).2.1]
  rw [e3] at e2
  cases e2
  have hbw := ownsRow_lt h02 b rfl
  have hbg : b ≠ g := by rintro rfl; omega
  have hoth : ∀ k, k ≠ b → (((w1.setCell ⟨b, i * 7 + 4, none⟩ (.int .i64 v.T)).setCell ⟨b, i * 7 + 5, none⟩ (.int .u64 v.N)).setCell ⟨b, i * 7 + 6, none⟩ (.string ⟨v.S.toArray⟩)).heap[k]? = w1.heap[k]? := fun k hk => (Below.heap_setCell _ _ _ _ hk).trans ((Below.heap_setCell _ _ _ _ hk).trans (Below.heap_setCell _ _ _ _ hk))
  refine ⟨⟨own, fun _ _ => rfl, ⟨⟨_, (hoth g hbg.symm).trans ?_, by simpa only [List.length_set] using slot_setVal h2 hs v, h3⟩, hgc, rel_turn H.rel ht hs, by rw [List.length_set]; exact H.max⟩, ⟨hb.os, hb.tape, hb.output, by simpa using hb.size, fun k hk hn => (hoth k (by rintro rfl; exact hn (by rw [hbc]; omega))).trans (hb.block k hk)⟩⟩, row_frozen h2 _, row_frozen h2 _, row_frozen h2 _, hbw, hbg⟩
  rw [h1, ghC_mk, ghC_mk, cC_same ht (setVal_len _ _ _), List.length_set]
def zSlot : Value := .agg #[.int .i64 0, .int .i64 0, .int .u64 0, .string ⟨#[]⟩, .int .i64 0, .int .u64 0, .string ⟨#[]⟩]
theorem info91 : (Try.prog.info? 91).map (fun i => (i.zero, i.size, i.bytes)) = some (some zSlot, 7, 72) := by kernel_rfl
theorem cell_seven_new (w : World) (a b c d e f h : Value) (t : TypeId) : ∀ j u, [a, b, c, d, e, f, h][j]? = some u → (w.alloc (.cells #[a, b, c, d, e, f, h] t)).cell? ((⟨w.heap.size, 0, none⟩ : Addr).add j) = some u := by
  intro j u hj
  have h1 : (w.alloc (.cells #[a, b, c, d, e, f, h] t)).heap[w.heap.size]? = some (.cells #[a, b, c, d, e, f, h] t) := by
    show (w.heap.push _)[_]? = _
    simp
  have h2 : ((⟨w.heap.size, 0, none⟩ : Addr).add j) = ⟨w.heap.size, j, none⟩ := by simp [Addr.add]; intro h; rw [h]
  rw [h2]
  show (match (w.alloc (.cells #[a, b, c, d, e, f, h] t)).heap[w.heap.size]? with | some (.cells c _ _) => c[j]? | _ => none) = _
  rw [h1]
  simpa using hj
abbrev slotO (A : Nat) (k v : V) : Obj := .cells #[.int .i64 (A : Int), .int .i64 k.T, .int .u64 k.N, .string ⟨k.S.toArray⟩, .int .i64 v.T, .int .u64 v.N, .string ⟨v.S.toArray⟩] 91
theorem append_slots {vo : Value} {n : Nat} {xs : List Value} (h : w.ownsRow 0 91 7 vo n xs) (hn : n ≤ 400) (A : Nat) (k v : V) (ty : TypeId) :
    ∃ b c w', (Builtin.append_ #[36, 36] ty #[vo, .slice (some ⟨w.heap.size, 0, none⟩) 1 1]).run Try.prog (w.alloc (slotO A k v)) = .ok (.slice (some ⟨b, 0, none⟩) (n + 1) c) w' ∧ w'.ownsRow 0 91 7 (.slice (some ⟨b, 0, none⟩) (n + 1) c) (n + 1) (xs ++ slotC (A, (k, v))) ∧
      w.grownBy w' vo.ownBlock ∧ (vo.ownBlock = some b ∨ b = w.heap.size + 1) := by
  obtain ⟨i0, hi, hz0, hz1, hz2⟩ := info_parts info91
  obtain ⟨v', w', hr, h2, h3, h4, h5⟩ := run_append_own_at (P := Try.prog) (w.alloc (slotO A k v)) 0 36 ty 91 i0 zSlot 7 72 Try.underlying36 hi hz0 hz1 hz2 rfl (by decide) vo n xs (h.alloc _) ⟨w.heap.size, 0, none⟩ 1 1 (slotC (A, (k, v))) rfl (cell_seven_new _ _ _ _ _ _ _ _ _) (by simp [slotC, Value.oneCell']) (by unfold maxLen; omega) (by omega) (Nat.zero_le _)
  rcases h2.2 with ⟨_, hx⟩ | ⟨b, cap, cur, rfl, _⟩
  · omega
  refine ⟨b, cap, w', hr, h2, grown_trans (World.grownBy_alloc w _ _) h3, ?_⟩
  rcases h5 with h5 | h5
  · left; rw [← h5]; rfl
  · right; simp [Value.ownBlock] at h5; exact h5
/-- The ghost between the append and the count. -/
def GMid (own : Nat → Nat) (w : World) (g : Nat) (st : List Tbl) (gs' : Gs) (w8 : World) : Prop := ∃ (own' : Nat → Nat) (vs' : Value), (∀ k, k < w.heap.size → own' k = own k) ∧ w8.heap[g]? = some (.cells (ghC st vs').toArray 38) ∧ w8.ownsRow 0 91 7 vs' gs'.length (gs'.flatMap slotC) ∧ (∀ b, vs'.ownBlock = some b → own' b = 301) ∧ ChgG own w w8
theorem GMid.drew {gs' : Gs} {w8 : World} (h : GMid own w g st gs' w8) : GMid own w g st gs' w8.drew := by
  obtain ⟨own', vs', h1, h2, h3, h4, h5⟩ := h
  exact ⟨own', vs', h1, h2, ownsRow_block h3 (fun _ _ => rfl), h4, ⟨h5.os, h5.tape, h5.output, h5.size, h5.block⟩⟩
theorem gh_grown {w6 w7 : World} (H : GhAt own w g st gs) (hb : Below w.heap.size w w6) {ad : Option Addr} {cp : Nat} (hcs : w6.cell? ⟨g, 13, none⟩ = some (.slice ad gs.length cp)) {A b c : Nat} {k v : V}
    (hr7 : w7.ownsRow 0 91 7 (.slice (some ⟨b, 0, none⟩) (gs.length + 1) c) (gs.length + 1) (gs.flatMap slotC ++ slotC (A, (k, v)))) (hg7 : w6.grownBy w7 (Value.slice ad gs.length cp).ownBlock) (hgw : (Value.slice ad gs.length cp).ownBlock = some b ∨ b = w6.heap.size + 1) :
    GMid own w g st (gs ++ [(A, (k, v))]) (w7.setCell ⟨g, 13, none⟩ (.slice (some ⟨b, 0, none⟩) (gs.length + 1) c)) ∧ w7.cell? ⟨g, 13, none⟩ = some (.slice ad gs.length cp) ∧ w7.frozen? ⟨g, 13, none⟩ = false := by
  have H6 := H.below hb
  obtain ⟨vs, h1, h2, h3⟩ := H6.tabs
  have e1 : w6.cell? ⟨g, 13, none⟩ = some vs := by simp [World.cell?, h1, (ghC_at st vs).2.1]
  rw [hcs] at e1
  cases e1
  have hgc := H.gc
  have hvg : (Value.slice ad gs.length cp).ownBlock ≠ some g := fun e => by have := h3 g e; omega
  have hlg := H6.lt
  have hG7 : w7.heap[g]? = w6.heap[g]? := hg7.block g hlg (Ne.symm hvg)
  have hbg : b ≠ g := by
    rcases hgw with e | e
    · rintro rfl; exact hvg e
    · omega
  obtain ⟨own', hown'⟩ : ∃ own' : Nat → Nat, own' = fun k => if k = b ∧ w6.heap.size ≤ k then 301 else own k := ⟨_, rfl⟩
  have ho : ∀ k, k < w6.heap.size → own' k = own k := by
    intro k hk
    rw [hown']
    dsimp only
    rw [if_neg (by omega)]
  have og : own' b = 301 := by
    rcases hgw with e | e
    · rw [ho b (ownsRow_lt h2 b e)]; exact h3 b e
    · rw [hown']; dsimp only; rw [if_pos ⟨rfl, by omega⟩]
  have hs6 := hb.size
  have hs7 := hg7.size
  refine ⟨⟨own', .slice (some ⟨b, 0, none⟩) (gs.length + 1) c, fun k hk => ho k (by omega), ?_, ?_, fun b' hb' => by cases hb'; exact og, ⟨hg7.os.trans hb.os, hg7.tape.trans hb.tape, hg7.output.trans hb.output, by simp; omega, fun k hk hn => ?_⟩⟩, (World.cell?_of_block (a := ⟨g, 13, none⟩) hG7).trans hcs, ?_⟩
  · rw [heap_setCell_same (hG7.trans h1), ghC_mk, ghC_set13 _ _ (cC_len st)]
    rfl
  · rw [List.length_append, List.length_singleton, List.flatMap_append]
    show World.ownsRow _ _ _ _ _ _ (_ ++ (slotC (A, (k, v)) ++ []))
    rw [List.append_nil]
    exact ownsRow_block hr7 (fun k hk => by cases hk; exact Below.heap_setCell _ _ _ _ hbg)
  · exact (Below.heap_setCell _ _ _ _ (by rintro rfl; exact hn (by rw [hgc]; omega))).trans ((hg7.block k (by omega) (Ne.symm (fun e => hn (by rw [h3 k e]; omega)))).trans (hb.block k hk))
  · rw [World.frozen?_of_block (a := ⟨g, 13, none⟩) hG7]
    simp [World.frozen?, h1]
theorem gmid_cell {A : Nat} {t : Tbl} {gs' : Gs} {w8 : World} (h : GMid own w g st gs' w8) (ht : st[A]? = some t) (hA : A < 12) : w8.cell? ⟨g, 1 + A, none⟩ = some (.int .i64 (t.length : Int)) ∧ w8.frozen? ⟨g, 1 + A, none⟩ = false := by
  obtain ⟨own', vs', h1, h2, h3, h4, h5⟩ := h
  have := (ghC_at st vs').2.2 A hA
  rw [ht] at this
  exact ⟨by simpa [World.cell?, h2] using this, by simp [World.frozen?, h2]⟩
theorem gmid_end (H : GhAt own w g st gs) {A : Nat} {t : Tbl} {e : V × V} {w8 : World} (h : GMid own w g st (gs ++ [(A, e)]) w8) (ht : st[A]? = some t) (hm : st.length ≤ 12) : GEnd own w g (st.set A (t ++ [e])) (gs ++ [(A, e)]) (w8.setCell ⟨g, 1 + A, none⟩ (.int .i64 ((t.length : Int) + 1))) := by
  obtain ⟨own', vs', h1, h2, h3, h4, h5⟩ := h
  have hA : A < st.length := (List.getElem?_eq_some_iff.1 ht).1
  have hgc : own' g = 300 := (h1 g H.lt).trans H.gc
  refine ⟨own', h1, ⟨⟨vs', ?_, ownsRow_block h3 (fun b hb => Below.heap_setCell _ _ _ _ (by rintro rfl; have := h4 _ hb; omega)), h4⟩, hgc, rel_grow H.rel ht, by rw [List.length_set]; exact hm⟩, ⟨h5.os, h5.tape, h5.output, by simpa using h5.size, fun k hk hn => (Below.heap_setCell _ _ _ _ (by rintro rfl; exact hn (by rw [H.gc]; omega))).trans (h5.block k hk hn)⟩⟩
  rw [heap_setCell_same h2, ghC_mk, ghC_set1 _ _ _ _ _ (by rw [cC_len]; omega), ghC_mk, cC_set hA, List.length_set, List.length_append, List.length_singleton]
  simp
end
end Go.Proofs.Qxb6500292a
