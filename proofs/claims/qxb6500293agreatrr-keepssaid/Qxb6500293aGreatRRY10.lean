/-
  A row of the machine's own grows by one; a thread's open list grows, is moved, is stored into.
-/
import Derived.Test.Qxb6500293aGreatRRY9
import Derived.Laws.CopyOwn
namespace Go.Proofs.Qxb6500293aGreatRR
open Go.RowKit
open Ieee (double)
set_option linter.unusedVariables false
set_option linter.unusedSimpArgs false

def zCe : Value := .agg #[.int .i64 0, .int .i64 0, .int .i64 0, .int .u64 0, .string ⟨#[]⟩]
def zCs : Value := .agg #[.int .i64 0, .int .i64 0, .int .i64 0]
def zPr : Value := .agg #[.int .i64 0, .int .i64 0, .int .i64 0, .int .i64 0, .int .i64 0, .int .i64 0, .int .i64 0, .int .i64 0]
def zDs : Value := .agg #[.int .u8 0, .int .u8 0]
def zCo : Value := .agg #[.int .u8 0, .int .u16 0]
theorem info95 : (Tryz.prog.info? 95).map (fun i => (i.zero, i.size, i.bytes)) = some (some zCe, 5, 48) := by kernel_rfl
theorem info69 : (Tryz.prog.info? 69).map (fun i => (i.zero, i.size, i.bytes)) = some (some zCs, 3, 24) := by kernel_rfl
theorem info3 : (Tryz.prog.info? 3).map (fun i => (i.zero, i.size, i.bytes)) = some (some (.int .i64 0), 1, 8) := by kernel_rfl
theorem info91 : (Tryz.prog.info? 91).map (fun i => (i.zero, i.size, i.bytes)) = some (some zPr, 8, 64) := by kernel_rfl
theorem info165 : (Tryz.prog.info? 165).map (fun i => (i.zero, i.size, i.bytes)) = some (some zDs, 2, 2) := by kernel_rfl
theorem info169 : (Tryz.prog.info? 169).map (fun i => (i.zero, i.size, i.bytes)) = some (some zCo, 2, 4) := by kernel_rfl
/-- Row j of the machine's own, with one element more. -/
theorem Vm.app {α : Type} {f : α → List Value} {sz : Nat} {ty : TypeId} {l : List α} {own : Nat → Nat} {W : World} {m a nb tp : Nat} {M : Mc} (HV : Vm own W m a nb tp M) (j : Nat) (hj : j < 7) (hl : ∀ L, rowM M L j = rowOf ty sz f l) (hf : ∀ a, (f a).length = sz)
    (t : TypeId) (z : Value) (by' : Nat) (hu : Tryz.prog.underlying t = some (.slice ty)) (hin : (Tryz.prog.info? ty).map (fun i => (i.zero, i.size, i.bytes)) = some (some z, sz, by')) (hzc : z.cells.size = sz) (hby : 0 < sz) (hb9 : by' ≤ 100) (hlen : l.length ≤ 100000) (x : α) (hone : ∀ u ∈ f x, u.oneCell' = true)
    (M' : Mc) (hl' : ∀ L, rowM M' L j = rowOf ty sz f (l ++ [x])) (hsame : ∀ L i, i < 23 → i ≠ j → rowM M' L i = rowM M L i) (hfu : M'.fuel = M.fuel) (he : M'.en = M.en) (ht : M'.tb = M.tb) (hn : M'.th = M.th) (rt : TypeId) :
    ∃ ad cp ad' cp' W', W.cell? ⟨m, 2 + j, none⟩ = some (.slice ad l.length cp) ∧ (Builtin.append_ #[t, t] rt #[.slice ad l.length cp, .slice (some ⟨W.heap.size, 0, none⟩) 1 1]).run Tryz.prog (W.alloc (.cells (f x).toArray ty)) = .ok (.slice ad' (l.length + 1) cp') W' ∧ W'.cell? ⟨m, 2 + j, none⟩ = some (.slice ad l.length cp) ∧ W'.frozen? ⟨m, 2 + j, none⟩ = false ∧ (∀ i, Nf own W m a nb tp i M' (W'.setCell ⟨m, 2 + j, none⟩ (.slice ad' (l.length + 1) cp'))) ∧ (∀ k, k < W.heap.size → own k ≠ 401 + j → k ≠ m → (W'.setCell ⟨m, 2 + j, none⟩ (.slice ad' (l.length + 1) cp')).heap[k]? = W.heap[k]?) := by
  obtain ⟨vals, L, H⟩ := HV
  obtain ⟨p1, p2, p3⟩ := H.row j (by omega)
  have hloc : locM m a j = ⟨m, 2 + j, none⟩ := by unfold locM; rw [if_pos hj]
  have hma := H.ma
  rw [hloc] at p1
  rw [hl L] at p2
  have p2 : W.ownsRow 0 ty sz (vals j) l.length (l.flatMap f) := p2
  obtain ⟨ad, cp, hv⟩ := row_slice p2
  obtain ⟨i0, hi, hz0, hz1, hz2⟩ := info_parts hin
  have hcell : ∀ q u, (f x)[q]? = some u → (W.alloc (.cells (f x).toArray ty)).cell? ((⟨W.heap.size, 0, none⟩ : Addr).add q) = some u := by
    intro q u hq
    rw [add_at, Nat.zero_add, box_cell (World.alloc_heap_new _ _) q]
    simpa using hq
  obtain ⟨v', w', hr, h2, h3, h4, h5⟩ := run_append_own_at (P := Tryz.prog) (W.alloc (.cells (f x).toArray ty)) 0 t rt ty i0 z sz by' hu hi hz0 hz1 hz2 hzc hby (vals j) l.length (l.flatMap f) (p2.alloc _) ⟨W.heap.size, 0, none⟩ 1 1 (f x) (by rw [hf]; omega) hcell hone (by unfold maxLen; omega) (by
    have h1 : (l.length + 1) * by' ≤ (l.length + 1) * 100 := Nat.mul_le_mul_left _ hb9
    omega) (Nat.zero_le _)
  obtain ⟨ad', cp', rfl⟩ := row_slice h2
  have hg : W.grownBy w' (vals j).ownBlock := grown_trans (World.grownBy_alloc W _ _) h3
  have hm7 : w'.heap[m]? = W.heap[m]? := hg.block m H.mlt (fun e => by have := p3 m e.symm; have := H.mc; omega)
  have c7 : w'.cell? ⟨m, 2 + j, none⟩ = W.cell? ⟨m, 2 + j, none⟩ := World.cell?_of_block (a := ⟨m, 2 + j, none⟩) hm7
  have f7 : w'.frozen? ⟨m, 2 + j, none⟩ = W.frozen? ⟨m, 2 + j, none⟩ := World.frozen?_of_block (a := ⟨m, 2 + j, none⟩) hm7
  have hr7 : w'.ownsRow 0 (rowM M' L j).ty (rowM M' L j).sz (.slice ad' (l.length + 1) cp') (rowM M' L j).n (rowM M' L j).xs := by
    rw [hl' L]
    show w'.ownsRow 0 ty sz _ (l ++ [x]).length ((l ++ [x]).flatMap f)
    rw [List.length_append, List.flatMap_append]
    simpa using h2
  have hN := H.rowNx (by omega) hg M' L hr7 (fun b hb => by
    rcases h5 with h5 | h5
    · left; rw [← h5]; exact hb
    · right; rw [h5] at hb; injection hb with hb; simp at hb; omega) (fun i hi hne => hsame L i hi hne) hfu he ht (by rw [hn]) (fun _ _ => ⟨rfl, rfl⟩) H.hL (by rw [hn]; exact H.pre)
  rw [hloc] at hN
  rw [hv] at hr p1
  have ha7 : w'.heap[a]? = W.heap[a]? := hg.block a H.alt (fun e => by have := p3 a e.symm; have := H.ac; omega)
  refine ⟨ad, cp, ad', cp', w', p1, hr, c7.trans p1, f7.trans (H.mz _), fun i => ⟨hN, ?_⟩, fun k hk h1 h2 => (Below.heap_setCell _ _ _ _ h2).trans (hg.block k hk (fun e => h1 (p3 k e.symm)))⟩
  exact (World.cell?_of_block (a := ⟨a, i * 5 + 3, none⟩) (Below.heap_setCell _ _ _ _ hma.symm)).trans (World.cell?_of_block (a := ⟨a, i * 5 + 3, none⟩) ha7)
section
variable {own : Nat → Nat} {W : World} {m a nb tp : Nat} {M : Mc}
/-- A new cell. -/
theorem Vm.ceApp (HV : Vm own W m a nb tp M) (hlen : M.ce.length ≤ 100000) (x : Ce) : ∃ ad cp ad' cp' W', W.cell? ⟨m, 8, none⟩ = some (.slice ad M.ce.length cp) ∧ (Builtin.append_ #[57, 57] 57 #[.slice ad M.ce.length cp, .slice (some ⟨W.heap.size, 0, none⟩) 1 1]).run Tryz.prog (W.alloc (.cells (ceC x).toArray 95)) = .ok (.slice ad' (M.ce.length + 1) cp') W' ∧ W'.cell? ⟨m, 8, none⟩ = some (.slice ad M.ce.length cp) ∧ W'.frozen? ⟨m, 8, none⟩ = false ∧ (∀ i, Nf own W m a nb tp i { M with ce := M.ce ++ [x] } (W'.setCell ⟨m, 8, none⟩ (.slice ad' (M.ce.length + 1) cp'))) ∧ (∀ k, k < W.heap.size → own k ≠ 407 → k ≠ m → (W'.setCell ⟨m, 8, none⟩ (.slice ad' (M.ce.length + 1) cp')).heap[k]? = W.heap[k]?) :=
  HV.app 6 (by omega) (fun L => (row_lo M L).2.2.2.2.2.2.1) ceC_len 57 zCe 48 Tryz.underlying57 info95 rfl (by decide) (by decide) hlen x (by simp [ceC, valC, Value.oneCell']) { M with ce := M.ce ++ [x] } (fun L => (row_lo { M with ce := M.ce ++ [x] } L).2.2.2.2.2.2.1) (fun L i hi hne => row_but M { M with ce := M.ce ++ [x] } L 6 (fun _ => rfl) (fun _ => rfl) (fun _ => rfl) (fun _ => rfl) (fun _ => rfl) (fun _ => rfl) (fun h => absurd rfl h) (fun _ => rfl) i hi hne) rfl rfl rfl rfl 57
theorem Vm.uxApp (HV : Vm own W m a nb tp M) (hlen : M.ux.length ≤ 100000) (x : Nat) : ∃ ad cp ad' cp' W', W.cell? ⟨m, 7, none⟩ = some (.slice ad M.ux.length cp) ∧ (Builtin.append_ #[56, 56] 56 #[.slice ad M.ux.length cp, .slice (some ⟨W.heap.size, 0, none⟩) 1 1]).run Tryz.prog (W.alloc (.cells (ixC x).toArray 3)) = .ok (.slice ad' (M.ux.length + 1) cp') W' ∧ W'.cell? ⟨m, 7, none⟩ = some (.slice ad M.ux.length cp) ∧ W'.frozen? ⟨m, 7, none⟩ = false ∧ (∀ i, Nf own W m a nb tp i { M with ux := M.ux ++ [x] } (W'.setCell ⟨m, 7, none⟩ (.slice ad' (M.ux.length + 1) cp'))) ∧ (∀ k, k < W.heap.size → own k ≠ 406 → k ≠ m → (W'.setCell ⟨m, 7, none⟩ (.slice ad' (M.ux.length + 1) cp')).heap[k]? = W.heap[k]?) :=
  HV.app 5 (by omega) (fun L => (row_lo M L).2.2.2.2.2.1) ixC_len 56 (.int .i64 0) 8 Tryz.underlying56 info3 rfl (by decide) (by decide) hlen x (by simp [ixC, Value.oneCell']) { M with ux := M.ux ++ [x] } (fun L => (row_lo { M with ux := M.ux ++ [x] } L).2.2.2.2.2.1) (fun L i hi hne => row_but M { M with ux := M.ux ++ [x] } L 5 (fun _ => rfl) (fun _ => rfl) (fun _ => rfl) (fun _ => rfl) (fun _ => rfl) (fun h => absurd rfl h) (fun _ => rfl) (fun _ => rfl) i hi hne) rfl rfl rfl rfl 56
theorem Vm.csApp (HV : Vm own W m a nb tp M) (hlen : M.cs.length ≤ 100000) (x : Cs) : ∃ ad cp ad' cp' W', W.cell? ⟨m, 6, none⟩ = some (.slice ad M.cs.length cp) ∧ (Builtin.append_ #[55, 55] 55 #[.slice ad M.cs.length cp, .slice (some ⟨W.heap.size, 0, none⟩) 1 1]).run Tryz.prog (W.alloc (.cells (csC x).toArray 69)) = .ok (.slice ad' (M.cs.length + 1) cp') W' ∧ W'.cell? ⟨m, 6, none⟩ = some (.slice ad M.cs.length cp) ∧ W'.frozen? ⟨m, 6, none⟩ = false ∧ (∀ i, Nf own W m a nb tp i { M with cs := M.cs ++ [x] } (W'.setCell ⟨m, 6, none⟩ (.slice ad' (M.cs.length + 1) cp'))) ∧ (∀ k, k < W.heap.size → own k ≠ 405 → k ≠ m → (W'.setCell ⟨m, 6, none⟩ (.slice ad' (M.cs.length + 1) cp')).heap[k]? = W.heap[k]?) :=
  HV.app 4 (by omega) (fun L => (row_lo M L).2.2.2.2.1) csC_len 55 zCs 24 Tryz.underlying55 info69 rfl (by decide) (by decide) hlen x (by simp [csC, Value.oneCell']) { M with cs := M.cs ++ [x] } (fun L => (row_lo { M with cs := M.cs ++ [x] } L).2.2.2.2.1) (fun L i hi hne => row_but M { M with cs := M.cs ++ [x] } L 4 (fun _ => rfl) (fun _ => rfl) (fun _ => rfl) (fun _ => rfl) (fun h => absurd rfl h) (fun _ => rfl) (fun _ => rfl) (fun _ => rfl) i hi hne) rfl rfl rfl rfl 55
/-- A thread's open list: its slice; with one more; laid anew in its place. -/
theorem Vm.opApp (HV : Vm own W m a nb tp M) {i : Nat} (hi : i < M.th.length) (hlen : (M.t i).op.length ≤ 100000) : ∃ ad cp ob cp' W', W.cell? ⟨a, i * 5 + 4, none⟩ = some (.slice ad (M.t i).op.length cp) ∧ (Builtin.append_ #[56, 56] 56 #[.slice ad (M.t i).op.length cp, .slice (some ⟨W.heap.size, 0, none⟩) 1 1]).run Tryz.prog (W.alloc (.cells #[.int .i64 0] 3)) = .ok (.slice (some ⟨ob, 0, none⟩) ((M.t i).op.length + 1) cp') W' ∧ W'.cell? ⟨a, i * 5 + 4, none⟩ = some (.slice ad (M.t i).op.length cp) ∧ W'.frozen? ⟨a, i * 5 + 4, none⟩ = false ∧ Nf own W m a nb tp i (M.setT i { M.t i with op := (M.t i).op ++ [0] }) (W'.setCell ⟨a, i * 5 + 4, none⟩ (.slice (some ⟨ob, 0, none⟩) ((M.t i).op.length + 1) cp')) ∧ (∀ k, k < W.heap.size → own k ≠ 411 + 3 * i → k ≠ a → (W'.setCell ⟨a, i * 5 + 4, none⟩ (.slice (some ⟨ob, 0, none⟩) ((M.t i).op.length + 1) cp')).heap[k]? = W.heap[k]?) := by
  obtain ⟨vals, L, H⟩ := HV
  obtain ⟨p1, p2, p3⟩ := H.opRow hi
  obtain ⟨ad, cp, hv⟩ := row_slice p2
  obtain ⟨i0, hi0, hz0, hz1, hz2⟩ := info_parts info3
  have hcell : ∀ q u, (ixC 0)[q]? = some u → (W.alloc (.cells #[.int .i64 0] 3)).cell? ((⟨W.heap.size, 0, none⟩ : Addr).add q) = some u := by
    intro q u hq
    rw [add_at, Nat.zero_add, box_cell (World.alloc_heap_new _ _) q, List.getElem?_toArray]
    exact hq
  obtain ⟨v', w', hr, h2, h3, h4, h5⟩ := run_append_own_at (P := Tryz.prog) (W.alloc (.cells #[.int .i64 0] 3)) 0 56 56 3 i0 (.int .i64 0) 1 8 Tryz.underlying56 hi0 hz0 hz1 hz2 rfl (by decide) (vals (10 + 3 * i)) (M.t i).op.length ((M.t i).op.flatMap ixC) (p2.alloc _) ⟨W.heap.size, 0, none⟩ 1 1 (ixC 0) rfl hcell (by simp [ixC, Value.oneCell']) (by unfold maxLen; omega) (by omega) (Nat.zero_le _)
  have h6 : ∃ ob cp', v' = .slice (some ⟨ob, 0, none⟩) ((M.t i).op.length + 1) cp' := by
    rcases h2.2 with ⟨h1, h0⟩ | ⟨g, cap, cur, h1, _⟩
    · omega
    · exact ⟨g, cap, h1⟩
  obtain ⟨ob, cp', rfl⟩ := h6
  have hg : W.grownBy w' (vals (10 + 3 * i)).ownBlock := grown_trans (World.grownBy_alloc W _ _) h3
  have h5' := (H.thr hi).2.1
  have ha7 : w'.heap[a]? = W.heap[a]? := hg.block a H.alt (fun e => by have := p3 a e.symm; have := H.ac; omega)
  have hN := H.opNf hi hg ((M.t i).op ++ [0]) (v' := .slice (some ⟨ob, 0, none⟩) ((M.t i).op.length + 1) cp') (by
    rw [List.length_append, List.flatMap_append]
    simpa using h2) (fun b hb => by
    rcases h5 with h5 | h5
    · left; rw [← h5]; exact hb
    · right; rw [h5] at hb; injection hb with hb; simp at hb; omega)
  rw [hv] at p1 hr
  exact ⟨ad, cp, ob, cp', w', p1, hr, (World.cell?_of_block (a := ⟨a, i * 5 + 4, none⟩) ha7).trans p1, (World.frozen?_of_block (a := ⟨a, i * 5 + 4, none⟩) ha7).trans (H.az _), hN, fun k hk h1 h2 => (Below.heap_setCell _ _ _ _ h2).trans (hg.block k hk (fun e => h1 (p3 k e.symm)))⟩
theorem Vm.opLay (HV : Vm own W m a nb tp M) {i : Nat} (hi : i < M.th.length) {ob n cp : Nat} (hc : W.cell? ⟨a, i * 5 + 4, none⟩ = some (.slice (some ⟨ob, 0, none⟩) n cp)) {W' : World} (hW : ∀ k, k ≠ ob → W'.heap[k]? = W.heap[k]?) (hos : W'.os = W.os) (htp : W'.tape = W.tape) (hou : W'.output = W.output) (hsz : W'.heap.size = W.heap.size) (op' : List Nat) (hl : op'.length = (M.t i).op.length)
    (hrow : W.ownsRow 0 3 1 (.slice (some ⟨ob, 0, none⟩) n cp) (M.t i).op.length ((M.t i).op.flatMap ixC) → W'.ownsRow 0 3 1 (.slice (some ⟨ob, 0, none⟩) n cp) op'.length (op'.flatMap ixC)) (q : Nat) : Nf own W m a nb tp q (M.setT i { M.t i with op := op' }) W' := by
  obtain ⟨vals, L, H⟩ := HV
  obtain ⟨e1, h5, e2⟩ := H.thr hi
  have hL := H.hL
  obtain ⟨p1, p2, p3⟩ := H.opRow hi
  rw [hc] at p1
  have hv := (Option.some.inj p1).symm
  rw [hv] at p2 p3
  have hoa : ob ≠ a := by
    rintro rfl
    have h1 : own ob = 411 + 3 * i := p3 ob rfl
    have h2 := H.ac
    omega
  have e3 : ((L.set i { M.t i with op := op' })[i]?).getD dT = { M.t i with op := op' } := by rw [List.getElem?_set, if_pos rfl, if_pos (by omega)]; rfl
  have h := H.setElem (j := 10 + 3 * i) (by omega) (W' := W') (b := ob) (by rw [hv]; rfl) hW hos htp hou hsz (M.setT i { M.t i with op := op' }) (L.set i { M.t i with op := op' }) ?_ ?_ rfl rfl rfl (by simp [Mc.setT]) ?_ (by simpa using hL) (take_setT M L i _ H.pre)
  · exact ⟨⟨own, fun _ _ => rfl, ⟨_, _, h.1⟩, h.2⟩, World.cell?_of_block (a := ⟨a, q * 5 + 3, none⟩) (hW a hoa.symm)⟩
  · rw [row_op, e3, hv]
    exact hrow p2
  · intro q hq hn
    exact row_thread M L i _ q hq (by omega) (fun _ => by rw [e1]) (fun _ => by rw [e1]) (fun h => absurd h hn)
  · intro k hk
    rw [List.getElem?_set]
    by_cases c : i = k
    · subst c
      rw [if_pos rfl, if_pos (by omega), e1]
      exact ⟨rfl, rfl⟩
    · rw [if_neg c]
      exact ⟨rfl, rfl⟩
end
end Go.Proofs.Qxb6500293aGreatRR
