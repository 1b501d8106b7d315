/-
  The open cells, the cells: closeFrom.
-/
import Derived.Test.Qxb6500293aGreatRRX7
namespace Go.Proofs.Qxb6500293aGreatRR
open Go.RowKit
set_option linter.unusedVariables false
set_option linter.unusedSimpArgs false

theorem ixC_len (n : Nat) : (ixC n).length = 1 := rfl
theorem ceC_len (c : Ce) : (ceC c).length = 5 := rfl
section
variable {own : Nat → Nat} {W : World} {m a nb tp : Nat} {M : Mc} {vals : Nat → Value} {L : List Th}
theorem VmAt.opRow (H : VmAt own W m a nb tp M vals L) {i : Nat} (hi : i < M.th.length) : W.cell? ⟨a, i * 5 + 4, none⟩ = some (vals (10 + 3 * i)) ∧ W.ownsRow 0 3 1 (vals (10 + 3 * i)) (M.t i).op.length ((M.t i).op.flatMap ixC) ∧ ∀ b, (vals (10 + 3 * i)).ownBlock = some b → own b = 411 + 3 * i := by
  obtain ⟨e1, h5, e2⟩ := H.thr hi
  obtain ⟨h1, h2, h3⟩ := H.row (10 + 3 * i) (by omega)
  rw [loc_op] at h1
  rw [row_op, e1] at h2
  exact ⟨h1, h2, fun b hb => by rw [h3 b hb]; omega⟩
/-- One thread's open list laid anew. -/
theorem VmAt.opNf (H : VmAt own W m a nb tp M vals L) {i : Nat} (hi : i < M.th.length) {W7 : World} (hg : W.grownBy W7 (vals (10 + 3 * i)).ownBlock) {v' : Value} (op : List Nat) (hrow : W7.ownsRow 0 3 1 v' op.length (op.flatMap ixC)) (hv : ∀ b, v'.ownBlock = some b → (vals (10 + 3 * i)).ownBlock = some b ∨ W.heap.size ≤ b) :
    Nf own W m a nb tp i (M.setT i { M.t i with op := op }) (W7.setCell ⟨a, i * 5 + 4, none⟩ v') := by
  obtain ⟨e1, h5, e2⟩ := H.thr hi
  have hc8 := (H.row (10 + 3 * i) (by omega)).2.2
  refine ⟨?_, (World.cell?_setCell_other _ _ _ _ (by intro e; injection e; omega)).trans (World.cell?_of_block (a := ⟨a, i * 5 + 3, none⟩) (hg.block a H.alt (fun e => by have := hc8 a e.symm; have := H.ac; omega)))⟩
  have hL := H.hL
  have e3 : ((L.set i { M.t i with op := op })[i]?).getD dT = { M.t i with op := op } := by rw [List.getElem?_set, if_pos rfl, if_pos (by omega)]; rfl
  rw [← loc_op m a i]
  refine H.rowNx (by omega) hg (M.setT i { M.t i with op := op }) (L.set i { M.t i with op := op }) ?_ hv ?_ rfl rfl rfl (by simp [Mc.setT]) ?_ (by simpa using hL) (take_setT M L i _ H.pre)
  · rw [row_op, e3]
    exact hrow
  · intro j hj hn
    exact row_thread M L i _ j hj (by omega) (fun _ => by rw [e1]) (fun _ => by rw [e1]) (fun h => absurd h hn)
  · intro k hk
    rw [List.getElem?_set]
    by_cases c : i = k
    · subst c
      rw [if_pos rfl, if_pos (by omega), e1]
      exact ⟨rfl, rfl⟩
    · rw [if_neg c]
      exact ⟨rfl, rfl⟩
theorem VmAt.opCut (H : VmAt own W m a nb tp M vals L) {i : Nat} (hi : i < M.th.length) {k b cp : Nat} (hk : k ≤ (M.t i).op.length) (hv : vals (10 + 3 * i) = .slice (some ⟨b, 0, none⟩) (M.t i).op.length cp) :
    Nf own W m a nb tp i (M.setT i { M.t i with op := (M.t i).op.take k }) (W.setCell ⟨a, i * 5 + 4, none⟩ (.slice (some ⟨b, 0, none⟩) k cp)) := by
  obtain ⟨_, hrow, _⟩ := H.opRow hi
  rw [hv] at hrow
  refine H.opNf hi (grownBy_refl W _) ((M.t i).op.take k) ?_ (fun b' hb' => .inl (by rw [hv]; exact hb'))
  rw [List.length_take, Nat.min_eq_left hk, flat_take ixC 1 ixC_len]
  exact row_take hrow hk
theorem VmAt.ceRow (H : VmAt own W m a nb tp M vals L) : W.cell? ⟨m, 8, none⟩ = some (vals 6) ∧ W.ownsRow 0 95 5 (vals 6) M.ce.length (M.ce.flatMap ceC) ∧ ∀ b, (vals 6).ownBlock = some b → own b = 407 := by
  obtain ⟨h1, h2, h3⟩ := H.row 6 (by omega)
  exact ⟨h1, h2, fun b hb => by rw [h3 b hb]⟩
/-- One cell laid anew, whichever way its five cells were stored. -/
theorem VmAt.ceSet (H : VmAt own W m a nb tp M vals L) {x cb cp : Nat} (hv : vals 6 = .slice (some ⟨cb, 0, none⟩) M.ce.length cp) (hx : x < M.ce.length) (c' : Ce) {W' : World} (hW : ∀ k, k ≠ cb → W'.heap[k]? = W.heap[k]?) (hos : W'.os = W.os) (htp : W'.tape = W.tape) (hou : W'.output = W.output) (hsz : W'.heap.size = W.heap.size)
    (hrow : W'.ownsRow 0 95 5 (.slice (some ⟨cb, 0, none⟩) M.ce.length cp) M.ce.length ((M.ce.set x c').flatMap ceC)) (i : Nat) : Nf own W m a nb tp i { M with ce := M.ce.set x c' } W' := by
  obtain ⟨_, _, hcol⟩ := H.ceRow
  have hcb : cb ≠ a := by
    rintro rfl
    have h1 : own cb = 407 := hcol cb (by rw [hv]; rfl)
    have h2 := H.ac
    omega
  have h := H.setElem (j := 6) (by omega) (W' := W') (b := cb) (by rw [hv]; rfl) hW hos htp hou hsz { M with ce := M.ce.set x c' } L ?_ (row_but _ _ L 6 (fun _ => rfl) (fun _ => rfl) (fun _ => rfl) (fun _ => rfl) (fun _ => rfl) (fun _ => rfl) (fun h => absurd rfl h) (fun _ => rfl)) rfl rfl rfl rfl (fun _ _ => ⟨rfl, rfl⟩) H.hL H.pre
  · exact ⟨⟨own, fun _ _ => rfl, ⟨_, _, h.1⟩, h.2⟩, World.cell?_of_block (a := ⟨a, i * 5 + 3, none⟩) (hW a hcb.symm)⟩
  · rw [(row_lo _ L).2.2.2.2.2.2.1, hv]
    show World.ownsRow _ 0 95 5 _ (M.ce.set x c').length _
    rw [List.length_set]
    exact hrow
end
/-- The five stores of closeFrom. -/
theorem ce_close {W : World} {cb cp x : Nat} {ce : List Ce} (h : W.ownsRow 0 95 5 (.slice (some ⟨cb, 0, none⟩) ce.length cp) ce.length (ce.flatMap ceC)) (hx : x < ce.length) (v : V) :
    (((((W.setCell ⟨cb, x * 5 + 2, none⟩ (.int .i64 v.T)).setCell ⟨cb, x * 5 + 3, none⟩ (.int .u64 (v.N : Int))).setCell ⟨cb, x * 5 + 4, none⟩ (.string ⟨v.S.toArray⟩)).setCell ⟨cb, x * 5 + 0, none⟩ (.int .i64 (-1))).setCell ⟨cb, x * 5 + 1, none⟩ (.int .i64 0)).ownsRow 0 95 5 (.slice (some ⟨cb, 0, none⟩) ce.length cp) ce.length ((ce.set x ⟨-1, 0, v⟩).flatMap ceC) := by
  have h1 := row_set1 h (show x * 5 + 2 < ce.length * 5 by omega) (.int .i64 v.T)
  have h2 := row_set1 h1 (show x * 5 + 3 < ce.length * 5 by omega) (.int .u64 (v.N : Int))
  have h3 := row_set1 h2 (show x * 5 + 4 < ce.length * 5 by omega) (.string ⟨v.S.toArray⟩)
  have h4 := row_set1 h3 (show x * 5 + 0 < ce.length * 5 by omega) (.int .i64 (-1))
  have h5 := row_set1 h4 (show x * 5 + 1 < ce.length * 5 by omega) (.int .i64 0)
  have hF : ∀ y ∈ ce.map ceC, y.length = 5 := by
    intro y hy
    rw [List.mem_map] at hy
    obtain ⟨z, _, rfl⟩ := hy
    rfl
  have hset : ∀ (F : List (List Value)) (r : List Value), (∀ y ∈ F, y.length = 5) → r.length = 5 → ∀ y ∈ F.set x r, y.length = 5 := by
    intro F r hF hr y hy
    rcases List.mem_or_eq_of_mem_set hy with h | h
    · exact hF y h
    · rw [h]; exact hr
  have hg : (ce.map ceC)[x]? = some (ceC ce[x]) := by rw [List.getElem?_map, List.getElem?_eq_getElem hx]; rfl
  have hl : ∀ (F : List (List Value)) (r : List Value), x < F.length → (F.set x r)[x]? = some r := fun F r h => by rw [List.getElem?_set, if_pos rfl, if_pos h]
  have hxl : x < (ce.map ceC).length := by simpa using hx
  rw [flatMap_flatten, flatten_set 5 _ x _ hF hg 2 _ (by omega), flatten_set 5 _ x _ (hset _ _ hF rfl) (hl _ _ hxl) 3 _ (by omega), flatten_set 5 _ x _ (hset _ _ (hset _ _ hF rfl) rfl) (hl _ _ (by simpa using hx)) 4 _ (by omega), flatten_set 5 _ x _ (hset _ _ (hset _ _ (hset _ _ hF rfl) rfl) rfl) (hl _ _ (by simpa using hx)) 0 _ (by omega), flatten_set 5 _ x _ (hset _ _ (hset _ _ (hset _ _ (hset _ _ hF rfl) rfl) rfl) rfl) (hl _ _ (by simpa using hx)) 1 _ (by omega)] at h5
  simp only [List.set_set] at h5
  rw [flatMap_flatten, List.map_set]
  exact h5
end Go.Proofs.Qxb6500293aGreatRR
