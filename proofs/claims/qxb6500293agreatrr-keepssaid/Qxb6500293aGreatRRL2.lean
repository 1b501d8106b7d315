/-
  The loader's frame: the machine and the reader, side by side.
-/
import Derived.Test.Qxb6500293aGreatRRL1
import Derived.Test.Qxb6500293aGreatRRY14
import Derived.Test.Qxb6500293aGreatRRY10
namespace Go.Proofs.Qxb6500293aGreatRR
open Go.RowKit
open Ieee (double)
set_option linter.unusedVariables false
set_option linter.unusedSimpArgs false

/-- Nothing but the side's own blocks and block rb has turned. -/
structure ChgR (own : Nat → Nat) (rb : Nat) (w w' : World) : Prop where
  os : w'.os = w.os
  tape : w'.tape = w.tape
  output : w'.output = w.output
  size : w.heap.size ≤ w'.heap.size
  block : ∀ j, j < w.heap.size → own j = 0 → j ≠ rb → w'.heap[j]? = w.heap[j]?
theorem ChgR.trans {own own' : Nat → Nat} {rb : Nat} {w w1 w2 : World} (h : ChgR own rb w w1) (k : ChgR own' rb w1 w2) (ho : ∀ j, j < w.heap.size → own' j = own j) : ChgR own rb w w2 :=
  ⟨k.os.trans h.os, k.tape.trans h.tape, k.output.trans h.output, Nat.le_trans h.size k.size, fun j hj e hn => (k.block j (Nat.lt_of_lt_of_le hj h.size) ((ho j hj).trans e) hn).trans (h.block j hj e hn)⟩
theorem ChgR.of_chg {own : Nat → Nat} {rb : Nat} {w w' : World} (h : ChgV own w w') : ChgR own rb w w' := ⟨h.os, h.tape, h.output, h.size, fun j hj e _ => h.block j hj e⟩
theorem ChgR.of_stp {own : Nat → Nat} {rb : Nat} {w w' : World} (h : Stp rb w w') : ChgR own rb w w' := ⟨h.os, h.tape, h.output, h.size, fun j hj _ hn => h.block j hj hn⟩
/-- In the midst of a function of the loader. -/
structure Rp (own : Nat → Nat) (W : World) (m a nb tp rb bb cap : Nat) (B : List (Nat × Obj)) (M : Mc) (r : Rd) (w : World) : Prop where
  ex : ∃ own', (∀ k, k < W.heap.size → own' k = own k) ∧ Vm own' w m a nb tp M ∧ ChgR own rb W w ∧ (∀ b ∈ B, w.heap[b.1]? = some b.2 ∧ own' b.1 = 0 ∧ W.heap.size ≤ b.1) ∧ own rb = 0 ∧ own bb = 0 ∧ rb < W.heap.size ∧ bb < W.heap.size
  rd : RdAt w rb bb cap r
section
variable {own : Nat → Nat} {W w w' : World} {m a nb tp rb bb cap : Nat} {B : List (Nat × Obj)} {M : Mc} {r r' : Rd}
theorem Vm.kept {own' : Nat → Nat} (H : Vm own W m a nb tp M) (hs : W.heap.size ≤ w'.heap.size) (hk : ∀ k, k < W.heap.size → own k ≠ 0 → w'.heap[k]? = W.heap[k]?) (ho : ∀ k, k < W.heap.size → own' k = own k) (hn : ∀ k, w'.heap.size ≤ k → own' k = 0) : Vm own' w' m a nb tp M := by
  obtain ⟨vals, L, h⟩ := H
  exact ⟨vals, L, h.kept hs hk ho hn⟩
theorem Vm.far (H : Vm own W m a nb tp M) {k : Nat} (hk : W.heap.size ≤ k) : own k = 0 := by
  obtain ⟨vals, L, h⟩ := H
  exact h.new k hk
theorem Rp.start (HV : Vm own W m a nb tp M) (h0 : own rb = 0) (h1 : own bb = 0) (HR : RdAt W rb bb cap r) : Rp own W m a nb tp rb bb cap [] M r W :=
  ⟨⟨own, fun _ _ => rfl, HV, ⟨rfl, rfl, rfl, Nat.le_refl _, fun _ _ _ _ => rfl⟩, by simp, h0, h1, HR.lt, HR.by'.1⟩, HR⟩
theorem Rp.below (h : Rp own W m a nb tp rb bb cap B M r w) (hb : Below w.heap.size w w') : Rp own W m a nb tp rb bb cap B M r w' := by
  obtain ⟨⟨own1, h1, h2, h3, h4, h5⟩, h6⟩ := h
  refine ⟨⟨own1, h1, h2.below hb, ⟨hb.os.trans h3.os, hb.tape.trans h3.tape, hb.output.trans h3.output, Nat.le_trans h3.size hb.size, fun j hj e hn => (hb.block j (Nat.lt_of_lt_of_le hj h3.size)).trans (h3.block j hj e hn)⟩, fun b hB => ⟨(hb.block _ (heap_lt (h4 b hB).1)).trans (h4 b hB).1, (h4 b hB).2⟩, h5⟩, h6.below hb⟩
theorem Rp.alloc (h : Rp own W m a nb tp rb bb cap B M r w) (o : Obj) {n : Nat} (hn : w.heap.size = n) : Rp own W m a nb tp rb bb cap ((n, o) :: B) M r (w.alloc o) := by
  subst hn
  have hb := below_one w o
  obtain ⟨⟨own1, h1, h2, h3, h4, h5⟩, h6⟩ := h.below hb
  obtain ⟨⟨own2, g1, g2, g3, g4, g5⟩, g6⟩ := h
  refine ⟨⟨own2, g1, g2.below hb, h3, ?_, g5⟩, h6⟩
  intro b hB
  rcases List.mem_cons.1 hB with rfl | hB
  · exact ⟨World.alloc_heap_new _ _, g2.new, g3.size⟩
  · exact ⟨(hb.block _ (heap_lt (g4 b hB).1)).trans (g4 b hB).1, (g4 b hB).2⟩
theorem Rp.drewN (h : Rp own W m a nb tp rb bb cap B M r w) (n : Nat) : Rp own W m a nb tp rb bb cap B M r (w.drewN n) := h.below (below_drewN (Below.refl _ _) n)
/-- The reader has gone on. -/
theorem Rp.turn (h : Rp own W m a nb tp rb bb cap B M r w) (hs : Stp rb w w') (hr : RdAt w' rb bb cap r') : Rp own W m a nb tp rb bb cap B M r' w' := by
  obtain ⟨⟨own1, h1, h2, h3, h4, h5, h7, h8, h9⟩, h6⟩ := h
  have z : own1 rb = 0 := (h1 rb h8).trans h5
  refine ⟨⟨own1, h1, h2.kept hs.size (fun k hk e => hs.block k hk (by rintro rfl; exact e z)) (fun _ _ => rfl) (fun k hk => h2.far (Nat.le_trans hs.size hk)), h3.trans (ChgR.of_stp (own := own1) hs) h1, ?_, h5, h7, h8, h9⟩, hr⟩
  intro b hB
  obtain ⟨g1, g2, g3⟩ := h4 b hB
  exact ⟨(hs.block _ (heap_lt g1) (by omega)).trans g1, g2, g3⟩
/-- The machine goes on. -/
theorem Rp.vm (h : Rp own W m a nb tp rb bb cap B M r w) : ∃ own', Vm own' w m a nb tp M ∧ own' rb = 0 ∧ own' bb = 0 ∧ (∀ M2 w2, Nx own' w m a nb tp M2 w2 → Rp own W m a nb tp rb bb cap B M2 r w2) ∧ (∀ M2 r2 w2, Rp own' w m a nb tp rb bb cap [] M2 r2 w2 → Rp own W m a nb tp rb bb cap B M2 r2 w2) := by
  obtain ⟨⟨own1, h1, h2, h3, h4, h5, h7, h8, h9⟩, h6⟩ := h
  have z : own1 rb = 0 := (h1 rb h8).trans h5
  have z2 : own1 bb = 0 := (h1 bb h9).trans h7
  have hs := h3.size
  refine ⟨own1, h2, z, z2, ?_, ?_⟩
  · rintro M2 w2 ⟨own2, g1, g2, g3⟩
    refine ⟨⟨own2, fun k hk => (g1 k (by omega)).trans (h1 k hk), g2, h3.trans (ChgR.of_chg g3) h1, fun b hB => ⟨(g3.block _ (heap_lt (h4 b hB).1) (h4 b hB).2.1).trans (h4 b hB).1, (g1 _ (heap_lt (h4 b hB).1)).trans (h4 b hB).2.1, (h4 b hB).2.2⟩, h5, h7, h8, h9⟩, ?_⟩
    exact h6.kept g3.size (fun k hk => g3.block k (by rcases hk with rfl | rfl <;> omega) (by rcases hk with rfl | rfl <;> assumption))
  · rintro M2 r2 w2 ⟨⟨own2, g1, g2, g3, g4, g5⟩, g6⟩
    refine ⟨⟨own2, fun k hk => (g1 k (by omega)).trans (h1 k hk), g2, h3.trans g3 h1, fun b hB => ?_, h5, h7, h8, h9⟩, g6⟩
    obtain ⟨q1, q2, q3⟩ := h4 b hB
    exact ⟨(g3.block _ (heap_lt q1) q2 (by omega)).trans q1, (g1 _ (heap_lt q1)).trans q2, q3⟩
/-- A box is written. -/
theorem Rp.put (h : Rp own W m a nb tp rb bb cap B M r w) {b : Nat} {o o' : Obj} (hb : (b, o) ∈ B) (hs : Stp b w w') (ho : w'.heap[b]? = some o') (hz : w'.heap.size = w.heap.size) (B' : List (Nat × Obj)) (hB : ∀ p ∈ B', p = (b, o') ∨ (p ∈ B ∧ p.1 ≠ b)) : Rp own W m a nb tp rb bb cap B' M r w' := by
  obtain ⟨⟨own1, h1, h2, h3, h4, h5, h7, h8, h9⟩, h6⟩ := h
  obtain ⟨q1, q2, q3⟩ : w.heap[b]? = some o ∧ own1 b = 0 ∧ W.heap.size ≤ b := h4 _ hb
  refine ⟨⟨own1, h1, h2.kept hs.size (fun k hk e => hs.block k hk (by rintro rfl; exact e q2)) (fun _ _ => rfl) (fun k hk => h2.far (Nat.le_trans hs.size hk)), ⟨hs.os.trans h3.os, hs.tape.trans h3.tape, hs.output.trans h3.output, Nat.le_trans h3.size hs.size, fun j hj e hn => (hs.block j (Nat.lt_of_lt_of_le hj h3.size) (by omega)).trans (h3.block j hj e hn)⟩, ?_, h5, h7, h8, h9⟩, h6.kept hs.size (fun k hk => hs.block k (by rcases hk with rfl | rfl; exact h6.lt; exact h6.by'.1) (by rcases hk with rfl | rfl <;> omega))⟩
  intro p hp
  rcases hB p hp with rfl | ⟨g1, g2⟩
  · exact ⟨ho, q2, q3⟩
  · obtain ⟨k1, k2, k3⟩ := h4 p g1
    exact ⟨(hs.block _ (heap_lt k1) g2).trans k1, k2, k3⟩
theorem Rp.box (h : Rp own W m a nb tp rb bb cap B M r w) {b : Nat} {o : Obj} (hb : (b, o) ∈ B) : w.heap[b]? = some o ∧ W.heap.size ≤ b ∧ b < w.heap.size ∧ ¬ b = m ∧ ¬ b = rb := by
  obtain ⟨⟨own1, h1, h2, h3, h4, h5, h7, h8, h9⟩, h6⟩ := h
  obtain ⟨g1, g2, g3⟩ : w.heap[b]? = some o ∧ own1 b = 0 ∧ W.heap.size ≤ b := h4 _ hb
  obtain ⟨vals, L, H⟩ := h2
  refine ⟨g1, g3, heap_lt g1, ?_, by omega⟩
  rintro rfl
  have := H.mc
  omega
theorem Rp.drop (h : Rp own W m a nb tp rb bb cap B M r w) : Rp own W m a nb tp rb bb cap [] M r w := by
  obtain ⟨⟨own1, h1, h2, h3, h4, h5⟩, h6⟩ := h
  exact ⟨⟨own1, h1, h2, h3, by simp, h5⟩, h6⟩
end
/-! ### the text's rows grow -/
section
variable {own : Nat → Nat} {W : World} {m a nb tp : Nat} {M : Mc}
theorem Vm.prApp (HV : Vm own W m a nb tp M) (hlen : M.pr.length ≤ 100000) (x : Pr) : ∃ ad cp ad' cp' W', W.cell? ⟨m, 2, none⟩ = some (.slice ad M.pr.length cp) ∧ (Builtin.append_ #[51, 51] 51 #[.slice ad M.pr.length cp, .slice (some ⟨W.heap.size, 0, none⟩) 1 1]).run Tryz.prog (W.alloc (.cells (prC x).toArray 91)) = .ok (.slice ad' (M.pr.length + 1) cp') W' ∧ W'.cell? ⟨m, 2, none⟩ = some (.slice ad M.pr.length cp) ∧ W'.frozen? ⟨m, 2, none⟩ = false ∧ (∀ i, Nf own W m a nb tp i { M with pr := M.pr ++ [x] } (W'.setCell ⟨m, 2, none⟩ (.slice ad' (M.pr.length + 1) cp'))) ∧ (∀ k, k < W.heap.size → own k ≠ 401 → k ≠ m → (W'.setCell ⟨m, 2, none⟩ (.slice ad' (M.pr.length + 1) cp')).heap[k]? = W.heap[k]?) :=
  HV.app 0 (by omega) (fun L => (row_lo M L).1) prC_len 51 zPr 64 Tryz.underlying51 info91 rfl (by decide) (by decide) hlen x (by simp [prC, Value.oneCell']) { M with pr := M.pr ++ [x] } (fun L => (row_lo { M with pr := M.pr ++ [x] } L).1) (fun L i hi hne => row_but M { M with pr := M.pr ++ [x] } L 0 (fun h => absurd rfl h) (fun _ => rfl) (fun _ => rfl) (fun _ => rfl) (fun _ => rfl) (fun _ => rfl) (fun _ => rfl) (fun _ => rfl) i hi hne) rfl rfl rfl rfl 51
theorem Vm.dsApp (HV : Vm own W m a nb tp M) (hlen : M.ds.length ≤ 100000) (x : Nat × Nat) : ∃ ad cp ad' cp' W', W.cell? ⟨m, 3, none⟩ = some (.slice ad M.ds.length cp) ∧ (Builtin.append_ #[52, 52] 52 #[.slice ad M.ds.length cp, .slice (some ⟨W.heap.size, 0, none⟩) 1 1]).run Tryz.prog (W.alloc (.cells (dsC x).toArray 165)) = .ok (.slice ad' (M.ds.length + 1) cp') W' ∧ W'.cell? ⟨m, 3, none⟩ = some (.slice ad M.ds.length cp) ∧ W'.frozen? ⟨m, 3, none⟩ = false ∧ (∀ i, Nf own W m a nb tp i { M with ds := M.ds ++ [x] } (W'.setCell ⟨m, 3, none⟩ (.slice ad' (M.ds.length + 1) cp'))) ∧ (∀ k, k < W.heap.size → own k ≠ 402 → k ≠ m → (W'.setCell ⟨m, 3, none⟩ (.slice ad' (M.ds.length + 1) cp')).heap[k]? = W.heap[k]?) :=
  HV.app 1 (by omega) (fun L => (row_lo M L).2.1) dsC_len 52 zDs 2 Tryz.underlying52 info165 rfl (by decide) (by decide) hlen x (by simp [dsC, Value.oneCell']) { M with ds := M.ds ++ [x] } (fun L => (row_lo { M with ds := M.ds ++ [x] } L).2.1) (fun L i hi hne => row_but M { M with ds := M.ds ++ [x] } L 1 (fun _ => rfl) (fun h => absurd rfl h) (fun _ => rfl) (fun _ => rfl) (fun _ => rfl) (fun _ => rfl) (fun _ => rfl) (fun _ => rfl) i hi hne) rfl rfl rfl rfl 52
theorem Vm.ksApp (HV : Vm own W m a nb tp M) (hlen : M.ks.length ≤ 100000) (x : V) : ∃ ad cp ad' cp' W', W.cell? ⟨m, 4, none⟩ = some (.slice ad M.ks.length cp) ∧ (Builtin.append_ #[53, 53] 53 #[.slice ad M.ks.length cp, .slice (some ⟨W.heap.size, 0, none⟩) 1 1]).run Tryz.prog (W.alloc (.cells (valC x).toArray 33)) = .ok (.slice ad' (M.ks.length + 1) cp') W' ∧ W'.cell? ⟨m, 4, none⟩ = some (.slice ad M.ks.length cp) ∧ W'.frozen? ⟨m, 4, none⟩ = false ∧ (∀ i, Nf own W m a nb tp i { M with ks := M.ks ++ [x] } (W'.setCell ⟨m, 4, none⟩ (.slice ad' (M.ks.length + 1) cp'))) ∧ (∀ k, k < W.heap.size → own k ≠ 403 → k ≠ m → (W'.setCell ⟨m, 4, none⟩ (.slice ad' (M.ks.length + 1) cp')).heap[k]? = W.heap[k]?) :=
  HV.app 2 (by omega) (fun L => (row_lo M L).2.2.1) valC_len 53 zVal 32 Tryz.underlying53 info33 rfl (by decide) (by decide) hlen x (by simp [valC, Value.oneCell']) { M with ks := M.ks ++ [x] } (fun L => (row_lo { M with ks := M.ks ++ [x] } L).2.2.1) (fun L i hi hne => row_but M { M with ks := M.ks ++ [x] } L 2 (fun _ => rfl) (fun _ => rfl) (fun h => absurd rfl h) (fun _ => rfl) (fun _ => rfl) (fun _ => rfl) (fun _ => rfl) (fun _ => rfl) i hi hne) rfl rfl rfl rfl 53
theorem Vm.coApp (HV : Vm own W m a nb tp M) (hlen : M.co.length ≤ 100000) (x : Nat × Nat) : ∃ ad cp ad' cp' W', W.cell? ⟨m, 5, none⟩ = some (.slice ad M.co.length cp) ∧ (Builtin.append_ #[54, 54] 54 #[.slice ad M.co.length cp, .slice (some ⟨W.heap.size, 0, none⟩) 1 1]).run Tryz.prog (W.alloc (.cells (coC x).toArray 169)) = .ok (.slice ad' (M.co.length + 1) cp') W' ∧ W'.cell? ⟨m, 5, none⟩ = some (.slice ad M.co.length cp) ∧ W'.frozen? ⟨m, 5, none⟩ = false ∧ (∀ i, Nf own W m a nb tp i { M with co := M.co ++ [x] } (W'.setCell ⟨m, 5, none⟩ (.slice ad' (M.co.length + 1) cp'))) ∧ (∀ k, k < W.heap.size → own k ≠ 404 → k ≠ m → (W'.setCell ⟨m, 5, none⟩ (.slice ad' (M.co.length + 1) cp')).heap[k]? = W.heap[k]?) :=
  HV.app 3 (by omega) (fun L => (row_lo M L).2.2.2.1) coC_len 54 zCo 4 Tryz.underlying54 info169 rfl (by decide) (by decide) hlen x (by simp [coC, Value.oneCell']) { M with co := M.co ++ [x] } (fun L => (row_lo { M with co := M.co ++ [x] } L).2.2.2.1) (fun L i hi hne => row_but M { M with co := M.co ++ [x] } L 3 (fun _ => rfl) (fun _ => rfl) (fun _ => rfl) (fun h => absurd rfl h) (fun _ => rfl) (fun _ => rfl) (fun _ => rfl) (fun _ => rfl) i hi hne) rfl rfl rfl rfl 54
end
end Go.Proofs.Qxb6500293aGreatRR
