/-
  run walked.
-/
import Derived.Test.Qxb6500293aGreatRRY48
import Derived.Test.Qxb6500293aGreatRRY49fin
namespace Go.Proofs.Qxb6500293aGreatRR
open Go.RowKit
open Ieee (double)
set_option linter.unusedVariables false
set_option linter.unusedSimpArgs false

theorem Rn.setE1 {own : Nat → Nat} {W w : World} {m a nb tp i : Nat} {fs : Option Value} {B : List (Nat × Obj)} {M : Mc} (h : Rn own W m a nb tp i fs B M w) {n d : Nat} {y0 y1 y2 y3 y4 y5 y6 y7 y8 : Value} {od : Obj} (h1 : (n, .cells #[y0, y1, y2, y3, y4, y5, y6, y7, y8] 85) ∈ B) (h0 : (d, od) ∈ B) (hne : d ≠ n) (x0 x1 x2 x3 x4 x5 x6 x7 x8 : Value) : Rn own W m a nb tp i fs [(n, .cells #[x0, x1, x2, x3, x4, x5, x6, x7, x8] 85), (d, od)] M (Go.Proofs.Qxb6500293aGreatRR.putE w n x0 x1 x2 x3 x4 x5 x6 x7 x8) := by
  have m1 : n ∈ B.map Prod.fst := List.mem_map_of_mem (f := Prod.fst) h1
  have m0 : d ∈ B.map Prod.fst := List.mem_map_of_mem (f := Prod.fst) h0
  have hz := ((((((((h.weak.put m1 0 x0).put m1 1 x1).put m1 2 x2).put m1 3 x3).put m1 4 x4).put m1 5 x5).put m1 6 x6).put m1 7 x7).put m1 8 x8
  refine hz.rn ?_
  intro p hp
  simp only [List.mem_cons, List.not_mem_nil, or_false] at hp
  rcases hp with rfl | rfl
  · exact ⟨m1, putE_block (h.box h1).1 x0 x1 x2 x3 x4 x5 x6 x7 x8⟩
  · exact ⟨m0, (putE_rest hne x0 x1 x2 x3 x4 x5 x6 x7 x8).trans (h.box h0).1⟩
/-- Both results in their boxes. -/
theorem Rn.setED {own : Nat → Nat} {W w : World} {m a nb tp i : Nat} {fs : Option Value} {B : List (Nat × Obj)} {M : Mc} (h : Rn own W m a nb tp i fs B M w) {n d : Nat} {y0 y1 y2 y3 y4 y5 y6 y7 y8 z : Value} (h1 : (n, .cells #[y0, y1, y2, y3, y4, y5, y6, y7, y8] 85) ∈ B) (h0 : (d, .cells #[z] 4) ∈ B) (hne : d ≠ n) (x0 x1 x2 x3 x4 x5 x6 x7 x8 y : Value) : Rn own W m a nb tp i fs [(n, .cells #[x0, x1, x2, x3, x4, x5, x6, x7, x8] 85), (d, .cells #[y] 4)] M ((Go.Proofs.Qxb6500293aGreatRR.putE w n x0 x1 x2 x3 x4 x5 x6 x7 x8).setCell ⟨d, 0, none⟩ y) := by
  have h2 := h.setE1 h1 h0 hne x0 x1 x2 x3 x4 x5 x6 x7 x8
  have hz := h2.weak.put (b := d) (by simp) 0 y
  refine hz.rn ?_
  intro p hp
  simp only [List.mem_cons, List.not_mem_nil, or_false] at hp
  rcases hp with rfl | rfl
  · exact ⟨by simp, (Below.heap_setCell _ _ _ _ (fun e => hne e.symm)).trans (h2.box (by simp)).1⟩
  · refine ⟨by simp, ?_⟩
    have := set_block (h2.box (b := d) (o := .cells #[z] 4) (by simp)).1 (k := 0) (by simp) y
    simpa using this
/-- The results, when the boxes are written. -/
theorem Rn.putD {own : Nat → Nat} {W w : World} {m a nb tp i : Nat} {fs : Option Value} {B : List (Nat × Obj)} {M : Mc} (h : Rn own W m a nb tp i fs B M w) {n d : Nat} (hb : n ∈ B.map Prod.fst) (hd : d ∈ B.map Prod.fst) (x0 x1 x2 x3 x4 x5 x6 x7 x8 y : Value) : Nx own W m a nb tp M ((Go.Proofs.Qxb6500293aGreatRR.putE w n x0 x1 x2 x3 x4 x5 x6 x7 x8).setCell ⟨d, 0, none⟩ y) :=
  ((((((((((h.weak.put hb 0 x0).put hb 1 x1).put hb 2 x2).put hb 3 x3).put hb 4 x4).put hb 5 x5).put hb 6 x6).put hb 7 x7).put hb 8 x8).put hd 0 y).nx
abbrev bxP (p : Addr) (t : TypeId) : Obj := .cells #[.pointer (some p)] t
set_option maxRecDepth 8000 in
set_option maxHeartbeats 2000000 in
theorem run_vm {own : Nat → Nat} {W : World} {m a nb tp : Nat} {M : Mc} (HV : Vm own W m a nb tp M) {i : Nat} (hA : Alive M (some i)) (hi : i < M.th.length) :
    Calls Tryz.prog 61 #[.pointer (some ⟨m, 0, none⟩), i64 i, .pointer (some ⟨a, i * 5, none⟩)] W fun e W' => e = .returned (.tuple #[evV (runP M i).2.1, .bool (runP M i).2.2]) ∧ Nx own W m a nb tp (runP M i).1 W' := by
  have hmf : ∀ (fn : Fn) (first cap : Array Value) (w : World), (Instr.makeFunc fn first cap).run Tryz.prog w = .ok (.func fn first cap) w := fun _ _ _ _ => rfl
  have R1 : Rm own W m a nb tp i [(W.heap.size + 1 + 1 + 1, .cells #[.bool false] 4), (W.heap.size + 1 + 1, zEv), (W.heap.size + 1, bxP ⟨a, i * 5, none⟩ 63), (W.heap.size, bxP ⟨m, 0, none⟩ 23)] M ((((W.alloc (bxP ⟨m, 0, none⟩ 23)).alloc (bxP ⟨a, i * 5, none⟩ 63)).alloc zEv).alloc (.cells #[.bool false] 4)) :=
    ((((Rm.start HV).alloc (bxP ⟨m, 0, none⟩ 23) rfl).alloc (bxP ⟨a, i * 5, none⟩ 63) (n := W.heap.size + 1) (by simp)).alloc zEv (n := W.heap.size + 1 + 1) (by simp)).alloc (.cells #[.bool false] 4) (n := W.heap.size + 1 + 1 + 1) (by simp)
  obtain ⟨own1, hv1, hN1, hX1, hF1, hG1⟩ := R1.rn.vmF
  have HLO := loop_any hv1 hA hi
  have l := loop_keeps hA hi
  have HX1 : Hid (∀ M2 w2, Nx own1 ((((W.alloc (bxP ⟨m, 0, none⟩ 23)).alloc (bxP ⟨a, i * 5, none⟩ 63)).alloc zEv).alloc (.cells #[.bool false] 4)) m a nb tp M2 w2 → Rn own W m a nb tp i (w2.cell? ⟨a, i * 5 + 3, none⟩) [(W.heap.size + 1 + 1 + 1, .cells #[.bool false] 4), (W.heap.size + 1 + 1, zEv), (W.heap.size + 1, bxP ⟨a, i * 5, none⟩ 63), (W.heap.size, bxP ⟨m, 0, none⟩ 23)] M2 w2) := hX1
  have HO : Hid (runP M i = runO i (loopP M i)) := runP_eq M i
  have HLK : Hid (LK M i (loopP M i)) := l
  generalize loopP M i = o at *
  clear HV hv1 hN1 hX1 hF1 hG1 R1 l hA
  go_enter_defers Tryz.func61, Tryz.ntmps61
  go_wp2_with fail
  refine HLO.mono ?_; rintro e w2 hE
  rcases hE with ⟨hk, rfl, hnx⟩ | ⟨hk, ⟨b, rfl, hb, hbo⟩, hnx⟩ | ⟨hk, rfl, hnx⟩
  · have R2 := HX1.out _ _ hnx
    have HO2 : Hid (runP M i = (o.M, o.x, true)) := by rw [HO.out]; unfold runO; rw [if_pos hk]; rfl
    generalize o.M = oM at *
    generalize o.x = ev at *
    obtain ⟨K, h, E, ⟨vT, vN, vS⟩, ⟨wT, wN, wS⟩⟩ := ev
    obtain ⟨e60, e61, e62, e63, e64, e65, e66, e67, e68, z6⟩ := cells9 (R2.box (b := W.heap.size + 1 + 1) (o := zEv) (by simp)).1
    have R3 : Rn own W m a nb tp i _ [(W.heap.size + 1 + 1, .cells #[.int .i64 (K : Int), .int .i64 (h : Int), .int .i64 E, .int .i64 vT, .int .u64 (vN : Int), .string ⟨vS.toArray⟩, .int .i64 wT, .int .u64 (wN : Int), .string ⟨wS.toArray⟩] 85), (W.heap.size + 1 + 1 + 1, .cells #[.bool false] 4)] oM (putE w2 (W.heap.size + 1 + 1) (.int .i64 (K : Int)) (.int .i64 (h : Int)) (.int .i64 E) (.int .i64 vT) (.int .u64 (vN : Int)) (.string ⟨vS.toArray⟩) (.int .i64 wT) (.int .u64 (wN : Int)) (.string ⟨wS.toArray⟩)) := R2.setE1 (n := W.heap.size + 1 + 1) (d := W.heap.size + 1 + 1 + 1) (List.mem_cons_of_mem _ (List.mem_cons_self ..)) (List.mem_cons_self ..) (by omega) (.int .i64 (K : Int)) (.int .i64 (h : Int)) (.int .i64 E) (.int .i64 vT) (.int .u64 (vN : Int)) (.string ⟨vS.toArray⟩) (.int .i64 wT) (.int .u64 (wN : Int)) (.string ⟨wS.toArray⟩)
    unfold putE at R3
    clear R2 hnx HLO HX1 HLK HO
    simp only [evV]
    go_upto_region 3 with fail
    clear e60 e61 e62 e63 e64 e65 e66 e67 e68 z6
    generalize ((((((((w2.setCell ⟨W.heap.size + 1 + 1, 0, none⟩ (.int .i64 (K : Int))).setCell ⟨W.heap.size + 1 + 1, 1, none⟩ (.int .i64 (h : Int))).setCell ⟨W.heap.size + 1 + 1, 2, none⟩ (.int .i64 E)).setCell ⟨W.heap.size + 1 + 1, 3, none⟩ (.int .i64 vT)).setCell ⟨W.heap.size + 1 + 1, 4, none⟩ (.int .u64 (vN : Int))).setCell ⟨W.heap.size + 1 + 1, 5, none⟩ (.string ⟨vS.toArray⟩)).setCell ⟨W.heap.size + 1 + 1, 6, none⟩ (.int .i64 wT)).setCell ⟨W.heap.size + 1 + 1, 7, none⟩ (.int .u64 (wN : Int))).setCell ⟨W.heap.size + 1 + 1, 8, none⟩ (.string ⟨wS.toArray⟩) = w3 at *
    obtain ⟨e60, e61, e62, e63, e64, e65, e66, e67, e68, z6⟩ := cells9 (R3.box (List.mem_cons_self ..)).1
    have bb2 := (R3.box (b := W.heap.size + 1 + 1 + 1) (o := .cells #[.bool false] 4) (by simp)).1
    have d0 : w3.cell? ⟨W.heap.size + 1 + 1 + 1, 0, none⟩ = some (.bool false) := by rw [box_cell bb2]; rfl
    have dz : w3.frozen? ⟨W.heap.size + 1 + 1 + 1, 0, none⟩ = false := box_frozen bb2 0
    have R4 := R3.setED (n := W.heap.size + 1 + 1) (d := W.heap.size + 1 + 1 + 1) (List.mem_cons_self ..) (List.mem_cons_of_mem _ (List.mem_cons_self ..)) (by omega) (.int .i64 (K : Int)) (.int .i64 (h : Int)) (.int .i64 E) (.int .i64 vT) (.int .u64 (vN : Int)) (.string ⟨vS.toArray⟩) (.int .i64 wT) (.int .u64 (wN : Int)) (.string ⟨wS.toArray⟩) (.bool true)
    unfold putE at R4
    clear R3 bb2
    go_wp2_with fail
    clear e60 e61 e62 e63 e64 e65 e66 e67 e68 z6 d0 dz
    refine leaves_cons (f := 75) (args := #[.pointer (some ⟨W.heap.size, 0, none⟩), .pointer (some ⟨W.heap.size + 1, 0, none⟩), .pointer (some ⟨W.heap.size + 1 + 1, 0, none⟩), .pointer (some ⟨W.heap.size + 1 + 1 + 1, 0, none⟩)]) (by simp) (by simp [go_sem]) ?_
    refine (catch_idle _ _ _ _ _).mono ?_
    rintro e u' w'' ⟨rfl, rfl, rfl⟩
    rw [HO2.out]
    generalize ((((((((((w3.setCell ⟨W.heap.size + 1 + 1, 0, none⟩ (.int .i64 (K : Int))).setCell ⟨W.heap.size + 1 + 1, 1, none⟩ (.int .i64 (h : Int))).setCell ⟨W.heap.size + 1 + 1, 2, none⟩ (.int .i64 E)).setCell ⟨W.heap.size + 1 + 1, 3, none⟩ (.int .i64 vT)).setCell ⟨W.heap.size + 1 + 1, 4, none⟩ (.int .u64 (vN : Int))).setCell ⟨W.heap.size + 1 + 1, 5, none⟩ (.string ⟨vS.toArray⟩)).setCell ⟨W.heap.size + 1 + 1, 6, none⟩ (.int .i64 wT)).setCell ⟨W.heap.size + 1 + 1, 7, none⟩ (.int .u64 (wN : Int))).setCell ⟨W.heap.size + 1 + 1, 8, none⟩ (.string ⟨wS.toArray⟩)).setCell ⟨W.heap.size + 1 + 1 + 1, 0, none⟩ (.bool true)) = w4 at *
    obtain ⟨c0, c1, c2, c3, c4, c5, c6, c7, c8, _⟩ := cells9 (R4.box (List.mem_cons_self ..)).1
    have c9 : w4.cell? ⟨W.heap.size + 1 + 1 + 1, 0, none⟩ = some (.bool true) := by rw [box_cell (R4.box (List.mem_cons_of_mem _ (List.mem_cons_self ..))).1]; rfl
    have HNX := R4.nx
    clear R4
    simp [Leaves, settle, results, Tryz.results61, go_sem, evV, c0, c1, c2, c3, c4, c5, c6, c7, c8, c9]
    exact HNX
  · have R2 := HX1.out _ _ hnx
    have hA2 := HLK.out.run (by omega)
    have hth := HLK.out.th
    have hi2 : i < o.M.th.length := by omega
    have HO2 : Hid (runP M i = unwP o.M i o.v) := by show _ = _; rw [HO.out]; unfold runO; rw [if_neg (by omega), if_neg (by omega)]
    obtain ⟨v0, v1, v2, _⟩ := cells3 hbo
    have b1 := (R2.box (b := W.heap.size) (o := bxP ⟨m, 0, none⟩ 23) (by simp)).1
    have b2 := (R2.box (b := W.heap.size + 1) (o := bxP ⟨a, i * 5, none⟩ 63) (by simp)).1
    have h1 : w2.cell? ⟨W.heap.size, 0, none⟩ = some (.pointer (some ⟨m, 0, none⟩)) := by rw [box_cell b1]; rfl
    have h2 : w2.cell? ⟨W.heap.size + 1, 0, none⟩ = some (.pointer (some ⟨a, i * 5, none⟩)) := by rw [box_cell b2]; rfl
    have RD := R2.drewN 1
    obtain ⟨own3, hv3, hN3, hX3⟩ := RD.vm
    obtain ⟨fb, n, cp, pb, pn, pcp, cb, cn, ccp, clo, P, pc, base, ns, nc, co, hL⟩ := hv3.lpC hA2 hi2
    have hsk := sk_bound hA2 hi2
    have hol := hA2.opLen hi2
    have hux := hA2.ux
    have HU0 := unwind_any hv3 hi2 hL.fr hL.eq.out.1 (by have := hL.b6; omega) (by omega) (by omega) (by omega) (hA2.opOk hi2) (fun j f hj => by
      have h := (hA2.th i hi2).base_le hj
      have h9 := ((hA2.th i hi2).frs j f hj).ret
      exact ⟨by omega, by omega⟩) o.v
    have HU : Calls Tryz.prog 76 #[.pointer (some ⟨m, 0, none⟩), .pointer (some ⟨a, i * 5, none⟩), valV ⟨o.v.T, o.v.N, o.v.S⟩] (w2.drewN 1) fun e W' => e = .returned (.tuple #[evV (unwP o.M i o.v).2.1, .bool (unwP o.M i o.v).2.2]) ∧ ∃ fs', Rn own W m a nb tp i fs' [(W.heap.size + 1 + 1 + 1, .cells #[.bool false] 4), (W.heap.size + 1 + 1, zEv), (W.heap.size + 1, bxP ⟨a, i * 5, none⟩ 63), (W.heap.size, bxP ⟨m, 0, none⟩ 23)] (unwP o.M i o.v).1 W' := by
      refine HU0.mono ?_
      rintro e w' ⟨rfl, h⟩
      exact ⟨rfl, _, hX3 _ _ h⟩
    have HC := catch_throw R2 h1 h2 v0 v1 v2 (be := W.heap.size + 1 + 1) (bd := W.heap.size + 1 + 1 + 1) (by simp) (by simp) (by omega) HU
    clear HU HU0 hv3 hN3 hX3 RD hL hA2 R2 hnx HLO HX1 HLK HO v0 v1 v2 b1 b2 h1 h2 hsk hol hux
    go_wp2_with fail
    refine leaves_cons (f := 75) (args := #[.pointer (some ⟨W.heap.size, 0, none⟩), .pointer (some ⟨W.heap.size + 1, 0, none⟩), .pointer (some ⟨W.heap.size + 1 + 1, 0, none⟩), .pointer (some ⟨W.heap.size + 1 + 1 + 1, 0, none⟩)]) (by simp) (by simp [go_sem]) ?_
    refine HC.mono ?_
    rintro e u' w'' ⟨rfl, rfl, w3, fs3, R3, rfl⟩
    rw [HO2.out]
    clear HO2
    generalize unwP o.M i o.v = u at *
    have R4 := R3.setED (n := W.heap.size + 1 + 1) (d := W.heap.size + 1 + 1 + 1) (List.mem_cons_of_mem _ (List.mem_cons_self ..)) (List.mem_cons_self ..) (by omega) (i64 u.2.1.K) (i64 u.2.1.h) (.int .i64 u.2.1.E) (.int .i64 u.2.1.v.T) (.int .u64 (u.2.1.v.N : Int)) (.string ⟨u.2.1.v.S.toArray⟩) (.int .i64 u.2.1.w.T) (.int .u64 (u.2.1.w.N : Int)) (.string ⟨u.2.1.w.S.toArray⟩) (.bool u.2.2)
    clear R3
    generalize (putE w3 (W.heap.size + 1 + 1) (i64 u.2.1.K) (i64 u.2.1.h) (.int .i64 u.2.1.E) (.int .i64 u.2.1.v.T) (.int .u64 (u.2.1.v.N : Int)) (.string ⟨u.2.1.v.S.toArray⟩) (.int .i64 u.2.1.w.T) (.int .u64 (u.2.1.w.N : Int)) (.string ⟨u.2.1.w.S.toArray⟩)).setCell ⟨W.heap.size + 1 + 1 + 1, 0, none⟩ (.bool u.2.2) = w4 at *
    obtain ⟨c0, c1, c2, c3, c4, c5, c6, c7, c8, _⟩ := cells9 (R4.box (List.mem_cons_self ..)).1
    have c9 : w4.cell? ⟨W.heap.size + 1 + 1 + 1, 0, none⟩ = some (.bool u.2.2) := by rw [box_cell (R4.box (List.mem_cons_of_mem _ (List.mem_cons_self ..))).1]; rfl
    have HNX := R4.nx
    clear R4
    simp [Leaves, settle, results, Tryz.results61, go_sem, evV, c0, c1, c2, c3, c4, c5, c6, c7, c8, c9]
    exact HNX
  · have R2 := HX1.out _ _ hnx
    have HO2 : Hid (runP M i = (wipeP o.M o.e, ⟨5, 0, o.e, nilV, nilV⟩, true)) := by show _ = _; rw [HO.out]; unfold runO; rw [if_neg (by omega), if_pos hk]
    have b1 := (R2.box (b := W.heap.size) (o := bxP ⟨m, 0, none⟩ 23) (by simp)).1
    have h1 : w2.cell? ⟨W.heap.size, 0, none⟩ = some (.pointer (some ⟨m, 0, none⟩)) := by rw [box_cell b1]; rfl
    have HC := catch_trap R2 h1 (bt := W.heap.size + 1) (be := W.heap.size + 1 + 1) (bd := W.heap.size + 1 + 1 + 1) (x := o.e) (by simp) (by simp) (by omega)
    clear R2 hnx HLO HX1 HLK HO b1 h1
    go_wp2_with fail
    refine leaves_cons (f := 75) (args := #[.pointer (some ⟨W.heap.size, 0, none⟩), .pointer (some ⟨W.heap.size + 1, 0, none⟩), .pointer (some ⟨W.heap.size + 1 + 1, 0, none⟩), .pointer (some ⟨W.heap.size + 1 + 1 + 1, 0, none⟩)]) (by simp) (by simp [go_sem]) ?_
    refine HC.mono ?_
    rintro e u' w'' ⟨rfl, rfl, w3, fs3, R3, rfl⟩
    rw [HO2.out]
    clear HO2
    have R4 := R3.setED (n := W.heap.size + 1 + 1) (d := W.heap.size + 1 + 1 + 1) (List.mem_cons_of_mem _ (List.mem_cons_self ..)) (List.mem_cons_self ..) (by omega) (.int .i64 5) (.int .i64 0) (.int .i64 o.e) (.int .i64 0) (.int .u64 0) (.string ⟨#[]⟩) (.int .i64 0) (.int .u64 0) (.string ⟨#[]⟩) (.bool true)
    clear R3
    generalize (putE w3 (W.heap.size + 1 + 1) (.int .i64 5) (.int .i64 0) (.int .i64 o.e) (.int .i64 0) (.int .u64 0) (.string ⟨#[]⟩) (.int .i64 0) (.int .u64 0) (.string ⟨#[]⟩)).setCell ⟨W.heap.size + 1 + 1 + 1, 0, none⟩ (.bool true) = w4 at *
    obtain ⟨c0, c1, c2, c3, c4, c5, c6, c7, c8, _⟩ := cells9 (R4.box (List.mem_cons_self ..)).1
    have c9 : w4.cell? ⟨W.heap.size + 1 + 1 + 1, 0, none⟩ = some (.bool true) := by rw [box_cell (R4.box (List.mem_cons_of_mem _ (List.mem_cons_self ..))).1]; rfl
    have HNX := R4.nx
    clear R4
    simp [Leaves, settle, results, Tryz.results61, go_sem, evV, nilV, c0, c1, c2, c3, c4, c5, c6, c7, c8, c9]
    exact HNX
end Go.Proofs.Qxb6500293aGreatRR
