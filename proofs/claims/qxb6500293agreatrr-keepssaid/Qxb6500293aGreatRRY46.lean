/-
  loop: an event in its box.
-/
import Derived.Test.Qxb6500293aGreatRRY45
namespace Go.Proofs.Qxb6500293aGreatRR
open Go.RowKit
open Ieee (double)
set_option linter.unusedVariables false
set_option linter.unusedSimpArgs false

theorem putE_block {w : World} {b : Nat} {y0 y1 y2 y3 y4 y5 y6 y7 y8 : Value} {ty : TypeId} (h : w.heap[b]? = some (.cells #[y0, y1, y2, y3, y4, y5, y6, y7, y8] ty)) (x0 x1 x2 x3 x4 x5 x6 x7 x8 : Value) : (putE w b x0 x1 x2 x3 x4 x5 x6 x7 x8).heap[b]? = some (.cells #[x0, x1, x2, x3, x4, x5, x6, x7, x8] ty) := by
  have h0 : (w.setCell ⟨b, 0, none⟩ x0).heap[b]? = some (.cells #[x0, y1, y2, y3, y4, y5, y6, y7, y8] ty) := by
    have := set_block h (k := 0) (by simp) x0
    simpa using this
  have h1 : ((w.setCell ⟨b, 0, none⟩ x0).setCell ⟨b, 1, none⟩ x1).heap[b]? = some (.cells #[x0, x1, y2, y3, y4, y5, y6, y7, y8] ty) := by
    have := set_block h0 (k := 1) (by simp) x1
    simpa using this
  have h2 : (((w.setCell ⟨b, 0, none⟩ x0).setCell ⟨b, 1, none⟩ x1).setCell ⟨b, 2, none⟩ x2).heap[b]? = some (.cells #[x0, x1, x2, y3, y4, y5, y6, y7, y8] ty) := by
    have := set_block h1 (k := 2) (by simp) x2
    simpa using this
  have h3 : ((((w.setCell ⟨b, 0, none⟩ x0).setCell ⟨b, 1, none⟩ x1).setCell ⟨b, 2, none⟩ x2).setCell ⟨b, 3, none⟩ x3).heap[b]? = some (.cells #[x0, x1, x2, x3, y4, y5, y6, y7, y8] ty) := by
    have := set_block h2 (k := 3) (by simp) x3
    simpa using this
  have h4 : (((((w.setCell ⟨b, 0, none⟩ x0).setCell ⟨b, 1, none⟩ x1).setCell ⟨b, 2, none⟩ x2).setCell ⟨b, 3, none⟩ x3).setCell ⟨b, 4, none⟩ x4).heap[b]? = some (.cells #[x0, x1, x2, x3, x4, y5, y6, y7, y8] ty) := by
    have := set_block h3 (k := 4) (by simp) x4
    simpa using this
  have h5 : ((((((w.setCell ⟨b, 0, none⟩ x0).setCell ⟨b, 1, none⟩ x1).setCell ⟨b, 2, none⟩ x2).setCell ⟨b, 3, none⟩ x3).setCell ⟨b, 4, none⟩ x4).setCell ⟨b, 5, none⟩ x5).heap[b]? = some (.cells #[x0, x1, x2, x3, x4, x5, y6, y7, y8] ty) := by
    have := set_block h4 (k := 5) (by simp) x5
    simpa using this
  have h6 : (((((((w.setCell ⟨b, 0, none⟩ x0).setCell ⟨b, 1, none⟩ x1).setCell ⟨b, 2, none⟩ x2).setCell ⟨b, 3, none⟩ x3).setCell ⟨b, 4, none⟩ x4).setCell ⟨b, 5, none⟩ x5).setCell ⟨b, 6, none⟩ x6).heap[b]? = some (.cells #[x0, x1, x2, x3, x4, x5, x6, y7, y8] ty) := by
    have := set_block h5 (k := 6) (by simp) x6
    simpa using this
  have h7 : ((((((((w.setCell ⟨b, 0, none⟩ x0).setCell ⟨b, 1, none⟩ x1).setCell ⟨b, 2, none⟩ x2).setCell ⟨b, 3, none⟩ x3).setCell ⟨b, 4, none⟩ x4).setCell ⟨b, 5, none⟩ x5).setCell ⟨b, 6, none⟩ x6).setCell ⟨b, 7, none⟩ x7).heap[b]? = some (.cells #[x0, x1, x2, x3, x4, x5, x6, x7, y8] ty) := by
    have := set_block h6 (k := 7) (by simp) x7
    simpa using this
  have h8 : (((((((((w.setCell ⟨b, 0, none⟩ x0).setCell ⟨b, 1, none⟩ x1).setCell ⟨b, 2, none⟩ x2).setCell ⟨b, 3, none⟩ x3).setCell ⟨b, 4, none⟩ x4).setCell ⟨b, 5, none⟩ x5).setCell ⟨b, 6, none⟩ x6).setCell ⟨b, 7, none⟩ x7).setCell ⟨b, 8, none⟩ x8).heap[b]? = some (.cells #[x0, x1, x2, x3, x4, x5, x6, x7, x8] ty) := by
    have := set_block h7 (k := 8) (by simp) x8
    simpa using this
  exact h8
theorem putE_rest {w : World} {b k : Nat} (h : k ≠ b) (x0 x1 x2 x3 x4 x5 x6 x7 x8 : Value) : (putE w b x0 x1 x2 x3 x4 x5 x6 x7 x8).heap[k]? = w.heap[k]? := by
  unfold putE
  rw [Below.heap_setCell _ _ _ _ h, Below.heap_setCell _ _ _ _ h, Below.heap_setCell _ _ _ _ h, Below.heap_setCell _ _ _ _ h, Below.heap_setCell _ _ _ _ h, Below.heap_setCell _ _ _ _ h, Below.heap_setCell _ _ _ _ h, Below.heap_setCell _ _ _ _ h, Below.heap_setCell _ _ _ _ h]
section
variable {own : Nat → Nat} {W w : World} {m a nb tp i : Nat} {fs : Option Value} {B : List (Nat × Obj)} {M : Mc}
theorem Rn.setE (h : Rn own W m a nb tp i fs B M w) {n e : Nat} (h1 : (n, zEv) ∈ B) (h0 : (e, zEv) ∈ B) (hne : e ≠ n) (x0 x1 x2 x3 x4 x5 x6 x7 x8 : Value) : Rn own W m a nb tp i fs [(n, .cells #[x0, x1, x2, x3, x4, x5, x6, x7, x8] 85), (e, zEv)] M (Go.Proofs.Qxb6500293aGreatRR.putE w n x0 x1 x2 x3 x4 x5 x6 x7 x8) := by
  have m1 : n ∈ B.map Prod.fst := List.mem_map_of_mem (f := Prod.fst) h1
  have m0 : e ∈ B.map Prod.fst := List.mem_map_of_mem (f := Prod.fst) h0
  have hz := ((((((((h.weak.put m1 0 x0).put m1 1 x1).put m1 2 x2).put m1 3 x3).put m1 4 x4).put m1 5 x5).put m1 6 x6).put m1 7 x7).put m1 8 x8
  refine hz.rn ?_
  intro p hp
  simp only [List.mem_cons, List.not_mem_nil, or_false] at hp
  rcases hp with rfl | rfl
  · exact ⟨m1, putE_block (h.box h1).1 x0 x1 x2 x3 x4 x5 x6 x7 x8⟩
  · exact ⟨m0, (putE_rest hne x0 x1 x2 x3 x4 x5 x6 x7 x8).trans (h.box h0).1⟩
end
theorem retP_ev {M : Mc} {i : Nat} (h : (retP M i).2.K = 0) : (retP M i).2 = noEv := by
  unfold retP at *
  simp only at *
  split
  · rename_i c
    rw [if_pos c] at h
    cases h
  · rfl
end Go.Proofs.Qxb6500293aGreatRR
