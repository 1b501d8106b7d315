/-
  capture, its tail: a new cell, its place in the open list: in memory.
-/
import Derived.Test.Qxb6500293aGreatRRY10
import Derived.Laws.CopyRow
namespace Go.Proofs.Qxb6500293aGreatRR
open Go.RowKit
open Ieee (double)
set_option linter.unusedVariables false
set_option linter.unusedSimpArgs false

theorem flat_ix (l : List Nat) : l.flatMap ixC = l.map i64 := by
  induction l with
  | nil => rfl
  | cons a l ih => rw [List.flatMap_cons, List.map_cons, ih]; rfl
/-- The open list with one more: moved, and stored into: in memory. -/
theorem op_move {W : World} {ob cp n c : Nat} {l : List Nat} (h : W.ownsRow 0 3 1 (.slice (some ⟨ob, 0, none⟩) (l.length + 1) cp) (l.length + 1) ((l ++ [0]).flatMap ixC)) (hn : n ≤ l.length) :
    ∃ w9, (∀ d s : Option Addr, (n < l.length → d = some ⟨ob, n + 1, none⟩ ∧ s = some ⟨ob, n, none⟩) → (Builtin.copy_ #[56, 56] 3 #[.slice d (l.length - n) (cp - (n + 1)), .slice s (l.length + 1 - n) (cp - n)]).run Tryz.prog W = .ok (goInt ((l.length - n : Nat) : Int)) w9) ∧ (∃ u, w9.cell? ⟨ob, n, none⟩ = some u) ∧ w9.frozen? ⟨ob, n, none⟩ = false ∧ (∀ k, k ≠ ob → w9.heap[k]? = W.heap[k]?) ∧ w9.os = W.os ∧ w9.tape = W.tape ∧ w9.output = W.output ∧ w9.heap.size = W.heap.size ∧ l.length + 1 ≤ cp ∧
      (w9.setCell ⟨ob, n, none⟩ (i64 c)).ownsRow 0 3 1 (.slice (some ⟨ob, 0, none⟩) (l.length + 1) cp) (l.length + 1) ((l.take n ++ [c] ++ l.drop n).flatMap ixC) := by
  obtain ⟨cur, hb, hs, hc, hm, hl, hx⟩ := ownsRow_at h
  have hsz : cur.size = cp := by omega
  have hcur : ∀ q, q < l.length + 1 → cur[q]? = ((l ++ [0]).map i64)[q]? := fun q hq => by rw [← flat_ix]; exact hx q (by omega)
  have h3 : (Tryz.prog.info? 3).map (·.size) = some 1 := by kernel_rfl
  by_cases hlt : n < l.length
  · have hsrc : ∀ j v, ((l.drop n).map i64)[j]? = some v → W.cell? ((⟨ob, n, none⟩ : Addr).add j) = some v := by
      intro j v hj
      have hjl := (List.getElem?_eq_some_iff.1 hj).1
      rw [List.length_map, List.length_drop] at hjl
      rw [add_at, box_cell hb, hcur _ (by omega), List.map_append, List.getElem?_append_left (by rw [List.length_map]; omega), ← hj, List.getElem?_map, List.getElem?_map, List.getElem?_drop]
    have hrun := run_copy_row (P := Tryz.prog) W 56 56 3 3 ob (n + 1) (l.length - n) (cp - (n + 1)) ⟨ob, n, none⟩ (l.length + 1 - n) (cp - n) cur 3 ((l.drop n).map i64) Tryz.underlying56 h3 hb (by rw [List.length_map, List.length_drop]; show _ = min _ _; omega) hsrc (by rw [List.length_map, List.length_drop]; omega) (by
      intro v hv
      rw [List.mem_map] at hv
      obtain ⟨x, _, rfl⟩ := hv
      rfl)
    rw [List.length_map, List.length_drop] at hrun
    obtain ⟨cur2, hc2⟩ : ∃ cur2, cur2 = (cur.toList.take (n + 1) ++ (l.drop n).map i64 ++ cur.toList.drop (n + 1 + (l.length - n))).toArray := ⟨_, rfl⟩
    rw [← hc2] at hrun
    have hheap : (W.setRow ob cur2).heap[ob]? = some (.cells cur2 3) := setRow_heap W ob cur _ 3 _ hb
    have hoth : ∀ k, k ≠ ob → (W.setRow ob cur2).heap[k]? = W.heap[k]? := fun k hk => by
      show (W.heap.modify ob _)[k]? = _
      rw [Array.getElem?_modify, if_neg (Ne.symm hk)]
    have hsize2 : cur2.size = cp := by
      rw [hc2]
      simp
      omega
    have hcell2 : ∀ q, q < l.length + 1 → q ≠ n → cur2[q]? = ((l.take n ++ [c] ++ l.drop n).map i64)[q]? := by
      intro q hq hqn
      rw [hc2, List.getElem?_toArray]
      by_cases c1 : q < n
      · rw [List.getElem?_append_left (by simp; omega), List.getElem?_append_left (by simp; omega), List.getElem?_take, if_pos (by omega), Array.getElem?_toList, hcur q hq, List.append_assoc, List.map_append, List.map_append, List.getElem?_append_left (by simp; omega), List.getElem?_append_left (by simp; omega), List.getElem?_map, List.getElem?_map, List.getElem?_take, if_pos c1]
      · have hlen : (cur.toList.take (n + 1)).length = n + 1 := by simp; omega
        rw [List.getElem?_append_left (by simp; omega), List.getElem?_append_right (by rw [hlen]; omega), hlen, List.map_append, List.getElem?_append_right (by simp; omega)]
        have : ((l.take n ++ [c]).map i64).length = n + 1 := by simp; omega
        rw [this]
    refine ⟨W.setRow ob cur2, ?_, ⟨cur2[n]'(by omega), ?_⟩, box_frozen hheap _, hoth, rfl, rfl, rfl, by simp [World.setRow], by omega, ?_⟩
    · intro d s hd
      obtain ⟨rfl, rfl⟩ := hd hlt
      exact hrun
    · rw [box_cell hheap]
      exact Array.getElem?_eq_getElem (by omega)
    · refine ownsRow_mk (heap_setCell_same hheap _) (by simpa using hsize2) (by omega) hm (by rw [flat_ix]; simp; omega) ?_
      intro q hq
      rw [Array.getElem?_setIfInBounds, flat_ix]
      by_cases e : n = q
      · subst e
        rw [if_pos rfl, if_pos (by omega), List.append_assoc, List.map_append, List.getElem?_append_right (by simp; omega)]
        have : ((l.take n).map i64).length = n := by simp; omega
        rw [this, Nat.sub_self]
        rfl
      · rw [if_neg e]
        exact hcell2 q (by omega) (Ne.symm e)
  · have hnl : n = l.length := by omega
    subst hnl
    refine ⟨W, ?_, ⟨cur[l.length]'(by omega), ?_⟩, box_frozen hb _, fun _ _ => rfl, rfl, rfl, rfl, rfl, by omega, ?_⟩
    · intro d s _
      have := run_copy_none (P := Tryz.prog) W 56 56 3 3 d s (l.length - l.length) (cp - (l.length + 1)) (l.length + 1 - l.length) (cp - l.length) Tryz.underlying56 h3 (by show min _ _ = 0; omega)
      rw [this, Nat.sub_self]
      rfl
    · rw [box_cell hb]
      exact Array.getElem?_eq_getElem (by omega)
    · refine ownsRow_mk (heap_setCell_same hb _) (by simpa using hsz) (by omega) hm (by rw [flat_ix]; simp) ?_
      intro q hq
      rw [Array.getElem?_setIfInBounds, flat_ix, List.take_length, List.drop_length, List.append_nil]
      by_cases e : l.length = q
      · subst e
        rw [if_pos rfl, if_pos (by omega), List.map_append, List.getElem?_append_right (by simp)]
        simp
      · rw [if_neg e, hcur q (by omega), List.map_append, List.map_append, List.getElem?_append_left (by simp; omega), List.getElem?_append_left (by simp; omega)]
theorem Vm.capTail {own : Nat → Nat} {w : World} {m a nb tp : Nat} {M : Mc} (HV : Vm own w m a nb tp M) {i : Nat} (hi : i < M.th.length) {at' n ol cl : Nat} (hol : ol = (M.t i).op.length) (hcl : cl = M.ce.length) (hn : n ≤ ol) (h1 : ol ≤ 10000) (h2 : cl ≤ 50000) :
    ∃ ad6 cp6 ad7 cp7 w6 ad8 cp8 ob cp9 w7 w9, w.cell? ⟨m, 8, none⟩ = some (.slice ad6 cl cp6) ∧ (Builtin.append_ #[57, 57] 57 #[.slice ad6 cl cp6, .slice (some ⟨w.heap.size, 0, none⟩) 1 1]).run Tryz.prog (w.alloc (.cells #[.int .i64 (i : Int), .int .i64 (at' : Int), .int .i64 0, .int .u64 0, .string ⟨#[]⟩] 95)) = .ok (.slice ad7 (cl + 1) cp7) w6 ∧ w6.cell? ⟨m, 8, none⟩ = some (.slice ad6 cl cp6) ∧ w6.frozen? ⟨m, 8, none⟩ = false ∧
      (w6.setCell ⟨m, 8, none⟩ (.slice ad7 (cl + 1) cp7)).cell? ⟨a, i * 5 + 4, none⟩ = some (.slice ad8 ol cp8) ∧ (Builtin.append_ #[56, 56] 56 #[.slice ad8 ol cp8, .slice (some ⟨w6.heap.size, 0, none⟩) 1 1]).run Tryz.prog ((w6.setCell ⟨m, 8, none⟩ (.slice ad7 (cl + 1) cp7)).alloc (.cells #[.int .i64 0] 3)) = .ok (.slice (some ⟨ob, 0, none⟩) (ol + 1) cp9) w7 ∧ w7.cell? ⟨a, i * 5 + 4, none⟩ = some (.slice ad8 ol cp8) ∧ w7.frozen? ⟨a, i * 5 + 4, none⟩ = false ∧
      ol + 1 ≤ cp9 ∧ (∀ d s : Option Addr, (n < ol → d = some ⟨ob, n + 1, none⟩ ∧ s = some ⟨ob, n, none⟩) → (Builtin.copy_ #[56, 56] 3 #[.slice d (ol - n) (cp9 - (n + 1)), .slice s (ol + 1 - n) (cp9 - n)]).run Tryz.prog ((w7.setCell ⟨a, i * 5 + 4, none⟩ (.slice (some ⟨ob, 0, none⟩) (ol + 1) cp9)).drew) = .ok (goInt ((ol - n : Nat) : Int)) w9) ∧ w9.cell? ⟨a, i * 5 + 4, none⟩ = some (.slice (some ⟨ob, 0, none⟩) (ol + 1) cp9) ∧ (∃ u, w9.cell? ⟨ob, n, none⟩ = some u) ∧ w9.frozen? ⟨ob, n, none⟩ = false ∧
      Nf own w m a nb tp i { M.setT i { M.t i with op := (M.t i).op.take n ++ [cl] ++ (M.t i).op.drop n } with ce := M.ce ++ [⟨(i : Int), at', nilV⟩] } (w9.setCell ⟨ob, n, none⟩ (i64 cl)) ∧ (∀ k, k < w.heap.size → 401 ≤ own k → own k ≤ 406 → (w9.setCell ⟨ob, n, none⟩ (i64 cl)).heap[k]? = w.heap[k]?) := by
  subst hol hcl
  obtain ⟨ad6, cp6, ad7, cp7, w6, r0, happ1, r1, r2, hN6, hk6⟩ := HV.ceApp (by omega) ⟨(i : Int), at', nilV⟩
  obtain ⟨⟨own6, ho6, HV6, hch6⟩, hf6⟩ := hN6 i
  have hi6 : i < ({ M with ce := M.ce ++ [⟨(i : Int), at', nilV⟩] } : Mc).th.length := hi
  obtain ⟨ad8, cp8, ob, cp9, w7, s0, happ2, s1, s2, hN7, hk7⟩ := HV6.opApp hi6 (by show (M.t i).op.length ≤ _; omega)
  rw [size_set] at happ2
  obtain ⟨⟨own7, ho7, HV7, hch7⟩, hf7⟩ := hN7
  obtain ⟨w8, hw8⟩ : ∃ w8, w8 = w7.setCell ⟨a, i * 5 + 4, none⟩ (.slice (some ⟨ob, 0, none⟩) ((M.t i).op.length + 1) cp9) := ⟨_, rfl⟩
  have hc8 : w8.cell? ⟨a, i * 5 + 4, none⟩ = some (.slice (some ⟨ob, 0, none⟩) ((M.t i).op.length + 1) cp9) := by rw [hw8]; exact World.cell?_setCell_same' _ _ _ (by rw [s1]; rfl)
  have HV8 : Vm own7 w8 m a nb tp (({ M with ce := M.ce ++ [⟨(i : Int), at', nilV⟩] } : Mc).setT i { M.t i with op := (M.t i).op ++ [0] }) := by rw [hw8]; exact HV7
  have hi8 : i < (({ M with ce := M.ce ++ [⟨(i : Int), at', nilV⟩] } : Mc).setT i { M.t i with op := (M.t i).op ++ [0] }).th.length := by rw [th_setT]; exact hi
  have ht8 : (({ M with ce := M.ce ++ [⟨(i : Int), at', nilV⟩] } : Mc).setT i { M.t i with op := (M.t i).op ++ [0] }).t i = { M.t i with op := (M.t i).op ++ [0] } := t_setT (M := { M with ce := M.ce ++ [⟨(i : Int), at', nilV⟩] }) hi _
  have HV9 := HV8.below (below_drewN (Below.refl w8.heap.size w8) 1)
  have hrow : (w8.drewN 1).ownsRow 0 3 1 (.slice (some ⟨ob, 0, none⟩) ((M.t i).op.length + 1) cp9) ((M.t i).op.length + 1) (((M.t i).op ++ [0]).flatMap ixC) := by
    obtain ⟨vals, L, H⟩ := HV9
    obtain ⟨p1, p2, p3⟩ := H.opRow hi8
    rw [ht8] at p2
    have p1 : w8.cell? ⟨a, i * 5 + 4, none⟩ = some (vals (10 + 3 * i)) := p1
    rw [hc8] at p1
    rw [← Option.some.inj p1] at p2
    simpa using p2
  obtain ⟨w9, hcopy, hu, hz, hoth, ho1, ho2, ho3, ho4, hcp, hrow9⟩ := op_move (c := M.ce.length) hrow hn
  have hoba : ob ≠ a := by
    obtain ⟨vals, L, H⟩ := HV8
    obtain ⟨p1, p2, p3⟩ := H.opRow hi8
    rw [hc8] at p1
    rw [← Option.some.inj p1] at p3
    rintro rfl
    have h1 : own7 ob = 411 + 3 * i := p3 ob rfl
    have h2 := H.ac
    have h5 := (H.thr hi8).2.1
    omega
  have hLay := HV9.opLay hi8 hc8 (W' := w9.setCell ⟨ob, n, none⟩ (i64 M.ce.length)) (fun k hk => (Below.heap_setCell _ _ _ _ hk).trans (hoth k hk)) ho1 ho2 ho3 (by rw [size_set]; exact ho4) ((M.t i).op.take n ++ [M.ce.length] ++ (M.t i).op.drop n) (by rw [ht8]; simp; omega) (fun _ => by
    have hle : ((M.t i).op.take n ++ [M.ce.length] ++ (M.t i).op.drop n).length = (M.t i).op.length + 1 := by simp; omega
    rw [hle]
    exact hrow9) i
  rw [ht8, setT_setT] at hLay
  refine ⟨ad6, cp6, ad7, cp7, w6, ad8, cp8, ob, cp9, w7, w9, r0, happ1, r1, r2, s0, happ2, s1, s2, hcp, by rw [← hw8]; exact hcopy, (World.cell?_of_block (a := ⟨a, i * 5 + 4, none⟩) (hoth a hoba.symm)).trans hc8, hu, hz, ?_, ?_⟩
  · have e1 := Nx.trans (fun _ _ => rfl) (ChgV.of_below (below_drewN (Below.refl w8.heap.size w8) 1)) hLay.1
    rw [hw8] at e1
    have e2 := hLay.2
    have e3 : (w8.drewN 1).cell? ⟨a, i * 5 + 3, none⟩ = w8.cell? ⟨a, i * 5 + 3, none⟩ := rfl
    rw [e3, hw8] at e2
    exact ⟨Nx.trans ho6 hch6 (Nx.trans ho7 hch7 e1), e2.trans (hf7.trans hf6)⟩
  · intro k hk k1 k2
    have hma : own m = 400 ∧ own a = 440 := by obtain ⟨vals, L, H⟩ := HV; exact ⟨H.mc, H.ac⟩
    have hsz6 := hch6.size
    have hob : k ≠ ob := by
      rintro rfl
      obtain ⟨vals, L, H⟩ := HV8
      obtain ⟨p1, p2, p3⟩ := H.opRow hi8
      rw [hc8] at p1
      rw [← Option.some.inj p1] at p3
      have h1 : own7 k = 411 + 3 * i := p3 k rfl
      rw [ho7 k (by omega), ho6 k hk] at h1
      omega
    have e1 : (w9.setCell ⟨ob, n, none⟩ (i64 M.ce.length)).heap[k]? = w8.heap[k]? := (Below.heap_setCell _ _ _ _ hob).trans (hoth k hob)
    rw [e1, hw8]
    refine (hk7 k (by omega) (by rw [ho6 k hk]; omega) (by rintro rfl; omega)).trans (hk6 k hk (by omega) (by rintro rfl; omega))
end Go.Proofs.Qxb6500293aGreatRR
