/-
  The output grows: print, and the builtins status, create.
-/
import Derived.Test.Qxb6500293aGreatRRY32
namespace Go.Proofs.Qxb6500293aGreatRR
open Go.RowKit
open Ieee (double)
set_option linter.unusedVariables false
set_option linter.unusedSimpArgs false

theorem append_str_at {W : World} {v : Value} {n : Nat} {xs : List Value} (hown : W.ownsRow 0 5 1 v n xs) (S : List UInt8) (hl : n + S.length ≤ 100000) (ty : TypeId) :
    ∃ ad' cp' w', (Builtin.append_ #[59, 9] ty #[v, .string ⟨S.toArray⟩]).run Tryz.prog W = .ok (.slice ad' (n + S.length) cp') w' ∧ w'.ownsRow 0 5 1 (.slice ad' (n + S.length) cp') (n + S.length) (xs ++ S.map cel) ∧ W.grownBy w' v.ownBlock ∧ (∀ b, (Value.slice ad' (n + S.length) cp').ownBlock = some b → v.ownBlock = some b ∨ W.heap.size ≤ b) := by
  obtain ⟨i0, hi, hz0, hz1, hz2⟩ := info_parts Tryz.infoU8
  have hsz : (⟨S.toArray⟩ : ByteArray).size = S.length := by simp [ByteArray.size]
  obtain ⟨v', w', hrun, h2, h3, h4⟩ := Go.Lib.run_append_own_string (P := Tryz.prog) W 0 59 9 ty 5 i0 Tryz.underlying59 Tryz.underlying9 hi hz0 hz1 hz2 _ _ _ hown ⟨S.toArray⟩ (by rw [hsz]; unfold maxLen; omega) (by rw [hsz]; omega) (Nat.zero_le _)
  have key : ∀ b, v'.ownBlock = some b → v.ownBlock = some b ∨ W.heap.size ≤ b := by
    intro b hb
    rcases hown.2 with ⟨h1, h0⟩ | ⟨g, cap, cur, h1, hbg, hg, hnc, hcm, hcs, htake⟩
    · subst h1 h0
      have hx : xs = [] := List.eq_nil_of_length_eq_zero (by simpa using hown.1)
      subst hx
      obtain ⟨v2, w2, hrun2, g2, _⟩ := Go.Lib.run_append_own_string (P := Tryz.prog) W W.heap.size 59 9 ty 5 i0 Tryz.underlying59 Tryz.underlying9 hi hz0 hz1 hz2 _ _ _ (World.ownsRow_nil W W.heap.size 5 1) ⟨S.toArray⟩ (by rw [hsz]; unfold maxLen; omega) (by rw [hsz]; omega) (Nat.le_refl _)
      rw [hrun] at hrun2
      injection hrun2 with e1 e2
      subst e1
      rcases g2.2 with ⟨q1, _⟩ | ⟨g, cap, cur, q1, q2, _⟩
      · rw [q1] at hb
        cases hb
      · rw [q1] at hb
        injection hb with hb
        exact .inr (by simp at hb; omega)
    · subst h1
      by_cases hroom : n + (⟨S.toArray⟩ : ByteArray).size ≤ cap
      · have hr := Go.Lib.run_append_room_string (P := Tryz.prog) W 59 9 ty 5 i0 Tryz.underlying59 Tryz.underlying9 hi hz1 g n cap cur hg ⟨S.toArray⟩ hroom (by rw [Nat.mul_one] at hcs; omega)
        rw [hrun] at hr
        injection hr with e1 e2
        subst e1
        exact .inl hb
      · have hxl : xs.length = n := by simpa using hown.1
        have hr := Go.Lib.run_append_grow_string (P := Tryz.prog) W 59 9 ty 5 i0 (.int .u8 0) Tryz.underlying59 Tryz.underlying9 hi hz0 ⟨g, 0, none⟩ n cap xs (by rw [hz1]; omega) (hown.cells (g := g) rfl) ⟨S.toArray⟩ (by omega) (by rw [hsz]; omega) (by rw [hz2]; exact growslice_fits (by omega) (by rw [hsz]; omega))
        rw [hrun] at hr
        injection hr with e1 e2
        subst e1
        injection hb with hb
        exact .inr (by simp at hb; omega)
  rw [hsz, strCells_eq] at h2
  obtain ⟨ao', cp', rfl⟩ := buf_shape h2
  exact ⟨ao', cp', w', hrun, h2, h3, key⟩
theorem byC_map (l : List UInt8) : l.flatMap byC = l.map cel := by
  induction l with
  | nil => rfl
  | cons c r ih => rw [List.flatMap_cons, ih]; rfl
theorem byte_cells (c : UInt8) : byC c = [cel c] := rfl
section
variable {own : Nat → Nat} {W : World} {m a nb tp : Nat} {M : Mc}
/-- The output, turned. -/
theorem Vm.outRow (HV : Vm own W m a nb tp M) (out' : List UInt8) : ∃ ad cp, W.cell? ⟨m, 11, none⟩ = some (.slice ad M.out.length cp) ∧ W.ownsRow 0 5 1 (.slice ad M.out.length cp) M.out.length (M.out.map cel) ∧ (∀ w7 ad' cp', W.grownBy w7 (Value.slice ad M.out.length cp).ownBlock → w7.ownsRow 0 5 1 (.slice ad' out'.length cp') out'.length (out'.map cel) → (∀ b, (Value.slice ad' out'.length cp').ownBlock = some b → (Value.slice ad M.out.length cp).ownBlock = some b ∨ W.heap.size ≤ b) → w7.cell? ⟨m, 11, none⟩ = some (.slice ad M.out.length cp) ∧ w7.frozen? ⟨m, 11, none⟩ = false ∧ ∀ i, Nf own W m a nb tp i { M with out := out' } (w7.setCell ⟨m, 11, none⟩ (.slice ad' out'.length cp'))) := by
  obtain ⟨vals, L, H⟩ := HV
  obtain ⟨p1, p2, p3⟩ := H.row 7 (by omega)
  have hloc : locM m a 7 = ⟨m, 11, none⟩ := rfl
  have hma := H.ma
  rw [hloc] at p1
  have p2 : W.ownsRow 0 5 1 (vals 7) M.out.length (M.out.flatMap byC) := p2
  obtain ⟨ad, cp, hv⟩ := row_slice p2
  rw [byC_map] at p2
  rw [hv] at p1 p2
  refine ⟨ad, cp, p1, p2, fun w7 ad' cp' hg hr hb => ?_⟩
  rw [← hv] at hg hb
  have hm7 : w7.heap[m]? = W.heap[m]? := hg.block m H.mlt (fun e => by have := p3 m e.symm; have := H.mc; omega)
  have c7 : w7.cell? ⟨m, 11, none⟩ = W.cell? ⟨m, 11, none⟩ := World.cell?_of_block (a := ⟨m, 11, none⟩) hm7
  have f7 : w7.frozen? ⟨m, 11, none⟩ = W.frozen? ⟨m, 11, none⟩ := World.frozen?_of_block (a := ⟨m, 11, none⟩) hm7
  have hr7 : w7.ownsRow 0 (rowM { M with out := out' } L 7).ty (rowM { M with out := out' } L 7).sz (.slice ad' out'.length cp') (rowM { M with out := out' } L 7).n (rowM { M with out := out' } L 7).xs := by
    show w7.ownsRow 0 5 1 (.slice ad' out'.length cp') out'.length (out'.flatMap byC)
    rw [byC_map]
    exact hr
  have hN := H.rowNx (by omega) hg { M with out := out' } L hr7 hb (fun i hi hne => by
    unfold rowM
    simp only [hne, if_false]) rfl rfl rfl rfl (fun _ _ => ⟨rfl, rfl⟩) H.hL H.pre
  rw [hloc] at hN
  have ha7 : w7.heap[a]? = W.heap[a]? := hg.block a H.alt (fun e => by have := p3 a e.symm; have := H.ac; omega)
  refine ⟨c7.trans p1, f7.trans (H.mz _), fun i => ⟨hN, ?_⟩⟩
  exact (World.cell?_of_block (a := ⟨a, i * 5 + 3, none⟩) (Below.heap_setCell _ _ _ _ hma.symm)).trans (World.cell?_of_block (a := ⟨a, i * 5 + 3, none⟩) ha7)
/-- 'm.out = append(m.out, s...)'. -/
theorem Vm.outStr (HV : Vm own W m a nb tp M) (S : List UInt8) (hl : M.out.length + S.length ≤ 100000) (ty : TypeId) :
    ∃ ad cp ad' cp' w', W.cell? ⟨m, 11, none⟩ = some (.slice ad M.out.length cp) ∧ (Builtin.append_ #[59, 9] ty #[.slice ad M.out.length cp, .string ⟨S.toArray⟩]).run Tryz.prog W = .ok (.slice ad' (M.out.length + S.length) cp') w' ∧ w'.cell? ⟨m, 11, none⟩ = some (.slice ad M.out.length cp) ∧ w'.frozen? ⟨m, 11, none⟩ = false ∧ ∀ i, Nf own W m a nb tp i { M with out := M.out ++ S } (w'.setCell ⟨m, 11, none⟩ (.slice ad' (M.out.length + S.length) cp')) := by
  obtain ⟨ad, cp, h1, h2, h3⟩ := HV.outRow (M.out ++ S)
  obtain ⟨ad', cp', w', g1, g2, g3, g4⟩ := append_str_at h2 S hl ty
  have hlen : (M.out ++ S).length = M.out.length + S.length := List.length_append
  rw [hlen] at h3
  obtain ⟨k1, k2, k3⟩ := h3 w' ad' cp' g3 (by rw [List.map_append]; exact g2) g4
  exact ⟨ad, cp, ad', cp', w', h1, g1, k1, k2, k3⟩
/-- 'm.out = append(m.out, c)'. -/
theorem Vm.outByte (HV : Vm own W m a nb tp M) (c : UInt8) (hl : M.out.length ≤ 10000) (ty : TypeId) :
    ∃ ad cp ad' cp' w', W.cell? ⟨m, 11, none⟩ = some (.slice ad M.out.length cp) ∧ (Builtin.append_ #[59, 59] ty #[.slice ad M.out.length cp, .slice (some ⟨W.heap.size, 0, none⟩) 1 1]).run Tryz.prog (W.alloc (.cells #[.int .u8 (c.toNat : Int)] 5)) = .ok (.slice ad' (M.out.length + 1) cp') w' ∧ w'.cell? ⟨m, 11, none⟩ = some (.slice ad M.out.length cp) ∧ w'.frozen? ⟨m, 11, none⟩ = false ∧ ∀ i, Nf own W m a nb tp i { M with out := M.out ++ [c] } (w'.setCell ⟨m, 11, none⟩ (.slice ad' (M.out.length + 1) cp')) := by
  obtain ⟨ad, cp, h1, h2, h3⟩ := HV.outRow (M.out ++ [c])
  obtain ⟨i0, hi, hz0, hz1, hz2⟩ := info_parts Tryz.infoU8
  obtain ⟨v', w', hrun, g2, g3, g4, g5⟩ := run_append_own_at (P := Tryz.prog) (W.alloc (.cells #[cel c] 5)) 0 59 ty 5 i0 (.int .u8 0) 1 1 Tryz.underlying59 hi hz0 hz1 hz2 rfl (by decide) _ _ _ (h2.alloc _) ⟨W.heap.size, 0, none⟩ 1 1 [cel c] rfl (cell_one_new _ _ _) (by simp [Value.oneCell', cel]) (by unfold maxLen; omega) (by omega) (Nat.zero_le _)
  obtain ⟨ad', cp', rfl⟩ := buf_shape g2
  have hlen : (M.out ++ [c]).length = M.out.length + 1 := by simp
  rw [hlen] at h3
  obtain ⟨k1, k2, k3⟩ := h3 w' ad' cp' (grown_trans (World.grownBy_alloc W _ _) g3) (by rw [List.map_append]; exact g2) (fun b hb => by
    rcases g5 with g5 | g5
    · left; rw [← g5]; exact hb
    · right; rw [g5] at hb; injection hb with hb; simp at hb; omega)
  exact ⟨ad, cp, ad', cp', w', h1, hrun, k1, k2, k3⟩
theorem Vm.stE (HV : Vm own W m a nb tp M) {k : Nat} (hk : k < M.th.length) : W.cell? ⟨a, k * 5, none⟩ = some (i64 (M.t k).st) := by
  obtain ⟨vals, L, H⟩ := HV
  obtain ⟨e1, h5', _⟩ := H.thr hk
  have ts := (H.ts k h5').1
  rw [e1] at ts
  exact ts
end
end Go.Proofs.Qxb6500293aGreatRR
