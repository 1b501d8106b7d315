/-
  call: what the builtins' ways need.
-/
import Derived.Test.Qxb6500293aGreatRRY37
namespace Go.Proofs.Qxb6500293aGreatRR
open Go.RowKit
open Ieee (double)
set_option linter.unusedVariables false
set_option linter.unusedSimpArgs false

theorem Tryz.underlying237 : Tryz.prog.underlying 237 = some (.array 3 33) := by kernel_rfl
theorem arr_at (b k cap : Nat) (w : World) : (Instr.arrayAt 237 (.slice (some ⟨b, k, none⟩) 3 cap)).run Tryz.prog w = .ok (.pointer (some ⟨b, k, none⟩)) w := by
  simp [Instr.arrayAt, run_underlying Tryz.underlying237]
theorem set_block {w : World} {b k : Nat} {cs : Array Value} {ty : TypeId} (h : w.heap[b]? = some (.cells cs ty)) (hk : k < cs.size) (x : Value) : (w.setCell ⟨b, k, none⟩ x).heap[b]? = some (.cells (cs.set! k x) ty) := by
  have hb : b < w.heap.size := (Array.getElem?_eq_some_iff.1 h).1
  simp [World.setCell, Array.getElem?_modify, h]
theorem put3_block {w : World} {b : Nat} {x0 y0 z0 : Value} {ty : TypeId} (h : w.heap[b]? = some (.cells #[x0, y0, z0] ty)) (x y z : Value) : (((w.setCell ⟨b, 0, none⟩ x).setCell ⟨b, 1, none⟩ y).setCell ⟨b, 2, none⟩ z).heap[b]? = some (.cells #[x, y, z] ty) := by
  have h1 := set_block h (k := 0) (by simp) x
  have h2 := set_block h1 (k := 1) (by simp) y
  have h3 := set_block h2 (k := 2) (by simp) z
  exact h3
theorem put3_rest {w : World} {b k : Nat} (h : k ≠ b) (x y z : Value) : (((w.setCell ⟨b, 0, none⟩ x).setCell ⟨b, 1, none⟩ y).setCell ⟨b, 2, none⟩ z).heap[k]? = w.heap[k]? :=
  (Below.heap_setCell _ _ _ _ h).trans ((Below.heap_setCell _ _ _ _ h).trans (Below.heap_setCell _ _ _ _ h))
section
variable {own : Nat → Nat} {W w : World} {m a nb tp i : Nat} {M : Mc}
theorem Rz.rn {fs : Option Value} {B : List Nat} {B' : List (Nat × Obj)} (h : Rz own W m a nb tp i fs B M w) (hB : ∀ p ∈ B', p.1 ∈ B ∧ w.heap[p.1]? = some p.2) : Rn own W m a nb tp i fs B' M w := by
  obtain ⟨own', h1, h2, h3, h4, h5⟩ := h
  exact ⟨own', h1, h2, h3, fun p hp => ⟨(hB p hp).2, (h4 _ (hB p hp).1).1, (h4 _ (hB p hp).1).2⟩, h5⟩
/-- The two results stored into their boxes. -/
theorem Rm.set6 {n e : Nat} {B : List (Nat × Obj)} {oe : Obj} (h : Rm own W m a nb tp i B M w) (h0 : (n, vBox 0 0 []) ∈ B) (h1 : (n + 1, vBox 0 0 []) ∈ B) (he : (e, oe) ∈ B) (hne : e < n) (r s : V) :
    Rm own W m a nb tp i [(n + 1, vBox s.T s.N s.S), (n, vBox r.T r.N r.S), (e, oe)] M (Go.Proofs.Qxb6500293aGreatRR.put6 w n (.int .i64 r.T) (.int .u64 (r.N : Int)) (.string ⟨r.S.toArray⟩) (.int .i64 s.T) (.int .u64 (s.N : Int)) (.string ⟨s.S.toArray⟩)) := by
  have hz := (h.rn.weak.put3 (b := n) (List.mem_map_of_mem (f := Prod.fst) h0) (.int .i64 r.T) (.int .u64 (r.N : Int)) (.string ⟨r.S.toArray⟩)).put3 (b := n + 1) (List.mem_map_of_mem (f := Prod.fst) h1) (.int .i64 s.T) (.int .u64 (s.N : Int)) (.string ⟨s.S.toArray⟩)
  have m0 : n ∈ B.map Prod.fst := List.mem_map_of_mem (f := Prod.fst) h0
  have m1 : n + 1 ∈ B.map Prod.fst := List.mem_map_of_mem (f := Prod.fst) h1
  have b0 := (h.rn.box h0).1
  have b1 := (h.rn.box h1).1
  have b2 := (h.rn.box he).1
  refine ⟨hz.rn ?_⟩
  intro p hp
  simp only [List.mem_cons, List.not_mem_nil, or_false] at hp
  rcases hp with rfl | rfl | rfl
  · refine ⟨m1, ?_⟩
    exact put3_block ((put3_rest (by omega) _ _ _).trans b1) _ _ _
  · refine ⟨m0, ?_⟩
    exact (put3_rest (by show n ≠ n + 1; omega) _ _ _).trans (put3_block b0 _ _ _)
  · refine ⟨List.mem_map_of_mem (f := Prod.fst) he, ?_⟩
    exact (put3_rest (by show e ≠ n + 1; omega) _ _ _).trans ((put3_rest (by show e ≠ n; omega) _ _ _).trans b2)
theorem Rm.cutSk {B : List (Nat × Obj)} (h : Rm own W m a nb tp i B M w) (hi : i < M.th.length) {ad : Option Addr} {n cp : Nat} (hc : w.cell? ⟨a, i * 5 + 2, none⟩ = some (.slice ad n cp)) (k : Nat) (hk : k ≤ (M.t i).sk.length) : Rm own W m a nb tp i B (cutP M i k) (w.setCell ⟨a, i * 5 + 2, none⟩ (.slice ad k cp)) := ⟨h.rn.cutSk hi hc k hk⟩
/-- Two values pushed. -/
theorem Rm.push2 {B : List (Nat × Obj)} (h : Rm own W m a nb tp i B M w) (hi : i < M.th.length) (hs : (M.t i).sk.length ≤ 20000) (r s : V) :
    Calls Tryz.prog 60 #[.pointer (some ⟨a, i * 5, none⟩), .slice (some ⟨w.heap.size, 0, none⟩) 2 2] (w.alloc (.cells #[.int .i64 r.T, .int .u64 (r.N : Int), .string ⟨r.S.toArray⟩, .int .i64 s.T, .int .u64 (s.N : Int), .string ⟨s.S.toArray⟩] 33)) fun e w' => e = .returned (.tuple #[]) ∧ Rm own W m a nb tp i B (pushP M i [r, s]) w' := by
  have h2 := h.alloc (.cells #[.int .i64 r.T, .int .u64 (r.N : Int), .string ⟨r.S.toArray⟩, .int .i64 s.T, .int .u64 (s.N : Int), .string ⟨s.S.toArray⟩] 33) rfl
  obtain ⟨own1, hv, hN⟩ := h2.vm
  have hc : ∀ j u, (([r, s] : List V).flatMap valC)[j]? = some u → (w.alloc (.cells #[.int .i64 r.T, .int .u64 (r.N : Int), .string ⟨r.S.toArray⟩, .int .i64 s.T, .int .u64 (s.N : Int), .string ⟨s.S.toArray⟩] 33)).cell? ((⟨w.heap.size, 0, none⟩ : Addr).add j) = some u := by
    intro j u hu
    rw [add_at, Nat.zero_add, box_cell (World.alloc_heap_new _ _)]
    simpa [valC] using hu
  refine (push_any hv hi hs w.heap.size 0 2 [r, s] (by simp) hc).mono ?_
  rintro e w' ⟨rfl, hf⟩
  have h3 := hN _ _ hf
  exact ⟨rfl, ⟨by
    obtain ⟨own', g1, g2, g3, g4, g5⟩ := h3.rn
    exact ⟨own', g1, g2, g3, fun p hp => g4 p (List.mem_cons_of_mem _ hp), g5⟩⟩⟩
end
end Go.Proofs.Qxb6500293aGreatRR
