/-
  The boxes of a call: what goes on beside the machine. ret walked.
-/
import Derived.Test.Qxb6500293aGreatRRX17
namespace Go.Proofs.Qxb6500293aGreatRR
open Go.RowKit
set_option linter.unusedVariables false
set_option linter.unusedSimpArgs false

/-- In the midst of a function: the machine is at M; B are the function's own boxes, as they lie; thread i's frames lie as fs says. -/
def Rn (own : Nat → Nat) (W : World) (m a nb tp i : Nat) (fs : Option Value) (B : List (Nat × Obj)) (M : Mc) (w : World) : Prop :=
  ∃ own', (∀ k, k < W.heap.size → own' k = own k) ∧ Vm own' w m a nb tp M ∧ ChgV own W w ∧ (∀ b ∈ B, w.heap[b.1]? = some b.2 ∧ own' b.1 = 0 ∧ W.heap.size ≤ b.1) ∧ w.cell? ⟨a, i * 5 + 3, none⟩ = fs
/-- The same, when the boxes are being written. -/
def Rz (own : Nat → Nat) (W : World) (m a nb tp i : Nat) (fs : Option Value) (B : List Nat) (M : Mc) (w : World) : Prop :=
  ∃ own', (∀ k, k < W.heap.size → own' k = own k) ∧ Vm own' w m a nb tp M ∧ ChgV own W w ∧ (∀ b ∈ B, own' b = 0 ∧ W.heap.size ≤ b) ∧ w.cell? ⟨a, i * 5 + 3, none⟩ = fs
theorem Vm.alt {own : Nat → Nat} {W : World} {m a nb tp : Nat} {M : Mc} (h : Vm own W m a nb tp M) : a < W.heap.size := by
  obtain ⟨vals, L, H⟩ := h
  exact H.alt
theorem Vm.new {own : Nat → Nat} {W : World} {m a nb tp : Nat} {M : Mc} (h : Vm own W m a nb tp M) : own W.heap.size = 0 := by
  obtain ⟨vals, L, H⟩ := h
  exact H.new _ (Nat.le_refl _)
theorem heap_lt {w : World} {b : Nat} {o : Obj} (h : w.heap[b]? = some o) : b < w.heap.size := (Array.getElem?_eq_some_iff.1 h).1
section
variable {own : Nat → Nat} {W w : World} {m a nb tp i : Nat} {fs : Option Value} {B : List (Nat × Obj)} {M : Mc}
theorem Rn.start (h : Vm own W m a nb tp M) : Rn own W m a nb tp i (W.cell? ⟨a, i * 5 + 3, none⟩) [] M W := ⟨own, fun _ _ => rfl, h, ⟨rfl, rfl, rfl, Nat.le_refl _, fun _ _ _ => rfl⟩, by simp, rfl⟩
theorem Rn.below {w' : World} (h : Rn own W m a nb tp i fs B M w) (hb : Below w.heap.size w w') : Rn own W m a nb tp i fs B M w' := by
  obtain ⟨own1, h1, h2, h3, h4, h5⟩ := h
  exact ⟨own1, h1, h2.below hb, h3.below hb, fun b hB => ⟨(hb.block _ (heap_lt (h4 b hB).1)).trans (h4 b hB).1, (h4 b hB).2⟩, (hb.cell (p := ⟨a, i * 5 + 3, none⟩) h2.alt).trans h5⟩
theorem Rn.alloc (h : Rn own W m a nb tp i fs B M w) (o : Obj) : Rn own W m a nb tp i fs ((w.heap.size, o) :: B) M (w.alloc o) := by
  obtain ⟨own1, h1, h2, h3, h4, h5⟩ := h
  have hb := below_one w o
  refine ⟨own1, h1, h2.below hb, h3.below hb, ?_, (hb.cell (p := ⟨a, i * 5 + 3, none⟩) h2.alt).trans h5⟩
  intro b hB
  rcases List.mem_cons.1 hB with rfl | hB
  · exact ⟨World.alloc_heap_new _ _, h2.new, h3.size⟩
  · exact ⟨(hb.block _ (heap_lt (h4 b hB).1)).trans (h4 b hB).1, (h4 b hB).2⟩
theorem Rn.drewN (h : Rn own W m a nb tp i fs B M w) (n : Nat) : Rn own W m a nb tp i fs B M (w.drewN n) := h.below (below_drewN (Below.refl _ _) n)
theorem Rn.vm (h : Rn own W m a nb tp i fs B M w) : ∃ own', Vm own' w m a nb tp M ∧ (∀ M2 w2, Nf own' w m a nb tp i M2 w2 → Rn own W m a nb tp i fs B M2 w2) ∧ (∀ M2 w2, Nx own' w m a nb tp M2 w2 → Rn own W m a nb tp i (w2.cell? ⟨a, i * 5 + 3, none⟩) B M2 w2) := by
  obtain ⟨own1, h1, h2, h3, h4, h5⟩ := h
  have key : ∀ M2 w2, Nx own1 w m a nb tp M2 w2 → Rn own W m a nb tp i (w2.cell? ⟨a, i * 5 + 3, none⟩) B M2 w2 := by
    rintro M2 w2 ⟨own2, g1, g2, g3⟩
    have hs := h3.size
    exact ⟨own2, fun k hk => (g1 k (by omega)).trans (h1 k hk), g2, h3.trans g3 h1, fun b hB => ⟨(g3.block _ (heap_lt (h4 b hB).1) (h4 b hB).2.1).trans (h4 b hB).1, (g1 _ (heap_lt (h4 b hB).1)).trans (h4 b hB).2.1, (h4 b hB).2.2⟩, rfl⟩
  refine ⟨own1, h2, ?_, key⟩
  intro M2 w2 hN
  have k1 := key M2 w2 hN.1
  rw [hN.2, h5] at k1
  exact k1
theorem Rn.frs (h : Rn own W m a nb tp i fs B M w) : w.cell? ⟨a, i * 5 + 3, none⟩ = fs := by
  obtain ⟨own1, h1, h2, h3, h4, h5⟩ := h
  exact h5
theorem Rn.nx (h : Rn own W m a nb tp i fs B M w) : Nx own W m a nb tp M w := by
  obtain ⟨own1, h1, h2, h3, h4, h5⟩ := h
  exact ⟨own1, h1, h2, h3⟩
theorem Rn.nf (h : Rn own W m a nb tp i fs B M w) (hf : fs = W.cell? ⟨a, i * 5 + 3, none⟩) : Nf own W m a nb tp i M w := ⟨h.nx, by obtain ⟨own1, h1, h2, h3, h4, h5⟩ := h; rw [h5, hf]⟩
/-- A box, as it lies: its cells can be read and written; it is none of the machine's. -/
theorem Rn.box (h : Rn own W m a nb tp i fs B M w) {b : Nat} {o : Obj} (hb : (b, o) ∈ B) : w.heap[b]? = some o ∧ W.heap.size ≤ b ∧ b < w.heap.size ∧ ¬ b = a ∧ ¬ b = m := by
  obtain ⟨own1, h1, h2, h3, h4, h5⟩ := h
  obtain ⟨g1, g2, g3⟩ : w.heap[b]? = some o ∧ own1 b = 0 ∧ W.heap.size ≤ b := h4 _ hb
  obtain ⟨vals, L, H⟩ := h2
  refine ⟨g1, g3, heap_lt g1, ?_, ?_⟩
  · rintro rfl
    have := H.ac
    omega
  · rintro rfl
    have := H.mc
    omega
theorem Rn.weak (h : Rn own W m a nb tp i fs B M w) : Rz own W m a nb tp i fs (B.map Prod.fst) M w := by
  obtain ⟨own1, h1, h2, h3, h4, h5⟩ := h
  refine ⟨own1, h1, h2, h3, ?_, h5⟩
  intro b hB
  rw [List.mem_map] at hB
  obtain ⟨p, hp, rfl⟩ := hB
  exact (h4 p hp).2
end
section
variable {own : Nat → Nat} {W w : World} {m a nb tp i : Nat} {fs : Option Value} {B : List Nat} {M : Mc}
theorem Rz.put (h : Rz own W m a nb tp i fs B M w) {b : Nat} (hb : b ∈ B) (k : Nat) (u : Value) : Rz own W m a nb tp i fs B M (w.setCell ⟨b, k, none⟩ u) := by
  obtain ⟨own1, h1, h2, h3, h4, h5⟩ := h
  obtain ⟨g2, g3⟩ := h4 b hb
  have hoth : ∀ j, j ≠ b → (w.setCell ⟨b, k, none⟩ u).heap[j]? = w.heap[j]? := fun j hj => Below.heap_setCell _ _ _ _ hj
  obtain ⟨vals, L, H⟩ := h2
  have hab : a ≠ b := by
    rintro rfl
    have := H.ac
    omega
  exact ⟨own1, h1, ⟨vals, L, H.kept (by simp) (fun j hj hz => hoth j (by rintro rfl; exact hz g2)) (fun _ _ => rfl) (fun j hj => H.new j (by simpa using hj))⟩, ⟨h3.os, h3.tape, h3.output, by simpa using h3.size, fun j hj hz => (hoth j (by omega)).trans (h3.block j hj hz)⟩, fun b' hB => h4 b' hB, (World.cell?_of_block (a := ⟨a, i * 5 + 3, none⟩) (hoth a hab)).trans h5⟩
theorem Rz.below {w' : World} (h : Rz own W m a nb tp i fs B M w) (hb : Below w.heap.size w w') : Rz own W m a nb tp i fs B M w' := by
  obtain ⟨own1, h1, h2, h3, h4, h5⟩ := h
  exact ⟨own1, h1, h2.below hb, h3.below hb, h4, (hb.cell (p := ⟨a, i * 5 + 3, none⟩) h2.alt).trans h5⟩
theorem Rz.nx (h : Rz own W m a nb tp i fs B M w) : Nx own W m a nb tp M w := by
  obtain ⟨own1, h1, h2, h3, h4, h5⟩ := h
  exact ⟨own1, h1, h2, h3⟩
theorem Rz.nf (h : Rz own W m a nb tp i fs B M w) (hf : fs = W.cell? ⟨a, i * 5 + 3, none⟩) : Nf own W m a nb tp i M w := ⟨h.nx, by obtain ⟨own1, h1, h2, h3, h4, h5⟩ := h; rw [h5, hf]⟩
end
theorem cells3 {w : World} {b : Nat} {x0 x1 x2 : Value} {ty : TypeId} (h : w.heap[b]? = some (.cells #[x0, x1, x2] ty)) : w.cell? ⟨b, 0, none⟩ = some x0 ∧ w.cell? ⟨b, 1, none⟩ = some x1 ∧ w.cell? ⟨b, 2, none⟩ = some x2 ∧ ∀ k, w.frozen? ⟨b, k, none⟩ = false := by
  simp [World.cell?, World.frozen?, h]
theorem cells9 {w : World} {b : Nat} {x0 x1 x2 x3 x4 x5 x6 x7 x8 : Value} {ty : TypeId} (h : w.heap[b]? = some (.cells #[x0, x1, x2, x3, x4, x5, x6, x7, x8] ty)) : w.cell? ⟨b, 0, none⟩ = some x0 ∧ w.cell? ⟨b, 1, none⟩ = some x1 ∧ w.cell? ⟨b, 2, none⟩ = some x2 ∧ w.cell? ⟨b, 3, none⟩ = some x3 ∧ w.cell? ⟨b, 4, none⟩ = some x4 ∧ w.cell? ⟨b, 5, none⟩ = some x5 ∧ w.cell? ⟨b, 6, none⟩ = some x6 ∧ w.cell? ⟨b, 7, none⟩ = some x7 ∧ w.cell? ⟨b, 8, none⟩ = some x8 ∧ ∀ k, w.frozen? ⟨b, k, none⟩ = false := by
  simp [World.cell?, World.frozen?, h]
theorem box_cell {w : World} {b : Nat} {cs : Array Value} {ty : TypeId} (h : w.heap[b]? = some (.cells cs ty)) (k : Nat) : w.cell? ⟨b, k, none⟩ = cs[k]? := by
  simp [World.cell?, h]
theorem box_frozen {w : World} {b : Nat} {cs : Array Value} {ty : TypeId} (h : w.heap[b]? = some (.cells cs ty)) (k : Nat) : w.frozen? ⟨b, k, none⟩ = false := by
  simp [World.frozen?, h]
def evV (e : Ev) : Value := .agg #[i64 e.K, i64 e.h, .int .i64 e.E, .int .i64 e.v.T, .int .u64 (e.v.N : Int), .string ⟨e.v.S.toArray⟩, .int .i64 e.w.T, .int .u64 (e.w.N : Int), .string ⟨e.w.S.toArray⟩]
def retP (M : Mc) (i : Nat) : Mc × Ev :=
  let w := topP M i
  let v := topP (dropP M i) i
  let M2 := dropP (dropP M i) i
  if (M.t i).fr.length = 1 then (killP M2 i, ⟨1, 0, 0, v, w⟩)
  else
    let f := (M.t i).f
    let M5 := pushP (cutP (closeP M2 i f.base) i f.ret) i (if f.prot then [boolV true, v] else [v, w])
    (M5.setT i { M5.t i with fr := (M5.t i).fr.take ((M.t i).fr.length - 1) }, noEv)
end Go.Proofs.Qxb6500293aGreatRR
