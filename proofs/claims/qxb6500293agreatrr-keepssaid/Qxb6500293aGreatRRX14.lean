/-
  enter walked.
-/
import Derived.Test.Qxb6500293aGreatRRX13
namespace Go.Proofs.Qxb6500293aGreatRR
open Go.RowKit
set_option linter.unusedVariables false
set_option linter.unusedSimpArgs false

def zFr : Value := .agg #[.int .i64 0, .int .i64 0, .int .i64 0, .int .i64 0, .bool false]
theorem info71 : (Tryz.prog.info? 71).map (fun i => (i.zero, i.size, i.bytes)) = some (some zFr, 5, 40) := by kernel_rfl
theorem prC_len (p : Pr) : (prC p).length = 8 := rfl
theorem csC_len (c : Cs) : (csC c).length = 3 := rfl
abbrev frO (f : Fr) : Obj := .cells #[i64 f.clo, i64 f.pc, i64 f.base, i64 f.ret, .bool f.prot] 71
theorem append_frame {W : World} {vo : Value} {n : Nat} {xs : List Value} (h : W.ownsRow 0 71 5 vo n xs) (hn : n ≤ 1000) (f : Fr) (ty : TypeId) :
    ∃ v' W', (Builtin.append_ #[64, 64] ty #[vo, .slice (some ⟨W.heap.size, 0, none⟩) 1 1]).run Tryz.prog (W.alloc (frO f)) = .ok v' W' ∧ W'.ownsRow 0 71 5 v' (n + 1) (xs ++ frC f) ∧ W.grownBy W' vo.ownBlock ∧ (∀ b, v'.ownBlock = some b → vo.ownBlock = some b ∨ W.heap.size ≤ b) := by
  obtain ⟨i0, hi, hz0, hz1, hz2⟩ := info_parts info71
  obtain ⟨v', w', hr, h2, h3, h4, h5⟩ := run_append_own_at (P := Tryz.prog) (W.alloc (frO f)) 0 64 ty 71 i0 zFr 5 40 Tryz.underlying64 hi hz0 hz1 hz2 rfl (by decide) vo n xs (h.alloc _) ⟨W.heap.size, 0, none⟩ 1 1 (frC f) rfl (by
    intro j u hu
    have h1 : (W.alloc (frO f)).heap[W.heap.size]? = some (frO f) := World.alloc_heap_new _ _
    rw [add_at, Nat.zero_add]
    simp only [World.cell?, h1]
    simpa [frC] using hu) (by simp [frC, Value.oneCell']) (by unfold maxLen; omega) (by omega) (Nat.zero_le _)
  refine ⟨v', w', hr, h2, grown_trans (World.grownBy_alloc W _ _) h3, ?_⟩
  intro b hb
  rcases h5 with h5 | h5
  · left; rw [← h5]; exact hb
  · right; rw [h5] at hb; injection hb with hb; simp at hb; omega
section
variable {own : Nat → Nat} {W : World} {m a nb tp : Nat} {M : Mc} {vals : Nat → Value} {L : List Th}
theorem VmAt.frNx (H : VmAt own W m a nb tp M vals L) {i : Nat} (hi : i < M.th.length) {W7 : World} (hg : W.grownBy W7 (vals (9 + 3 * i)).ownBlock) {v' : Value} (fr : List Fr) (hrow : W7.ownsRow 0 71 5 v' fr.length (fr.flatMap frC)) (hv : ∀ b, v'.ownBlock = some b → (vals (9 + 3 * i)).ownBlock = some b ∨ W.heap.size ≤ b) :
    Nx own W m a nb tp (M.setT i { M.t i with fr := fr }) (W7.setCell ⟨a, i * 5 + 3, none⟩ v') := by
  obtain ⟨e1, h5, e2⟩ := H.thr hi
  have hL := H.hL
  have e3 : ((L.set i { M.t i with fr := fr })[i]?).getD dT = { M.t i with fr := fr } := by rw [List.getElem?_set, if_pos rfl, if_pos (by omega)]; rfl
  rw [← loc_fr m a i]
  refine H.rowNx (by omega) hg (M.setT i { M.t i with fr := fr }) (L.set i { M.t i with fr := fr }) ?_ hv ?_ rfl rfl rfl (by simp [Mc.setT]) ?_ (by simpa using hL) (take_setT M L i _ H.pre)
  · rw [row_fr, e3]
    exact hrow
  · intro j hj hn
    exact row_thread M L i _ j hj (by omega) (fun _ => by rw [e1]) (fun h => absurd h hn) (fun _ => by rw [e1])
  · intro k hk
    rw [getD_set L i k _ (by omega)]
    by_cases c : i = k
    · subst c
      rw [if_pos rfl, e1]
      exact ⟨rfl, rfl⟩
    · rw [if_neg c]
      exact ⟨rfl, rfl⟩
end
/-- A closure's proto, as the machine's pointers name it. -/
theorem Vm.protoAt {own : Nat → Nat} {W : World} {m a nb tp : Nat} {M : Mc} (HV : Vm own W m a nb tp M) {c : Nat} (hc : c < M.cs.length) (hp : (M.c c).p < M.pr.length) :
    ∃ pb pn pcp cb cn ccp, W.cell? ⟨m, 2, none⟩ = some (.slice (some ⟨pb, 0, none⟩) pn pcp) ∧ W.cell? ⟨m, 6, none⟩ = some (.slice (some ⟨cb, 0, none⟩) cn ccp) ∧ pn = M.pr.length ∧ cn = M.cs.length ∧ pn ≤ pcp ∧ cn ≤ ccp ∧ pb < W.heap.size ∧ cb < W.heap.size ∧ own pb = 401 ∧ own cb = 405 ∧ (W.cell? ⟨cb, c * 3, none⟩ = some (i64 (M.c c).p) ∧ W.cell? ⟨cb, c * 3 + 1, none⟩ = some (i64 (M.c c).up) ∧ W.cell? ⟨cb, c * 3 + 2, none⟩ = some (i64 (M.c c).nup)) ∧
    (W.cell? ⟨pb, (M.c c).p * 8, none⟩ = some (i64 (M.p c).np) ∧ W.cell? ⟨pb, (M.c c).p * 8 + 1, none⟩ = some (i64 (M.p c).ns) ∧ W.cell? ⟨pb, (M.c c).p * 8 + 2, none⟩ = some (i64 (M.p c).up) ∧ W.cell? ⟨pb, (M.c c).p * 8 + 3, none⟩ = some (i64 (M.p c).nup) ∧ W.cell? ⟨pb, (M.c c).p * 8 + 4, none⟩ = some (i64 (M.p c).k) ∧ W.cell? ⟨pb, (M.c c).p * 8 + 5, none⟩ = some (i64 (M.p c).nk) ∧ W.cell? ⟨pb, (M.c c).p * 8 + 6, none⟩ = some (i64 (M.p c).co) ∧ W.cell? ⟨pb, (M.c c).p * 8 + 7, none⟩ = some (i64 (M.p c).nc)) := by
  obtain ⟨vals, L, H⟩ := HV
  obtain ⟨p1, p2, p3⟩ := H.row 0 (by omega)
  obtain ⟨c1, c2, c3⟩ := H.row 4 (by omega)
  have p2 : W.ownsRow 0 91 8 (vals 0) M.pr.length (M.pr.flatMap prC) := p2
  have c2 : W.ownsRow 0 69 3 (vals 4) M.cs.length (M.cs.flatMap csC) := c2
  have p1 : W.cell? ⟨m, 2, none⟩ = some (vals 0) := p1
  have c1 : W.cell? ⟨m, 6, none⟩ = some (vals 4) := c1
  obtain ⟨pb, pcp, pv, pl, plt, _, pcell⟩ := row_elem prC_len (by decide) p2 (j := (M.c c).p) (x := M.p c) (by unfold Mc.p; rw [List.getElem?_eq_getElem hp]; rfl)
  obtain ⟨cb, ccp, cv, cl, clt, _, ccell⟩ := row_elem csC_len (by decide) c2 (j := c) (x := M.c c) (by unfold Mc.c; rw [List.getElem?_eq_getElem hc]; rfl)
  exact ⟨pb, _, pcp, cb, _, ccp, by rw [p1, pv], by rw [c1, cv], rfl, rfl, pl, cl, plt, clt, p3 pb (by rw [pv]; rfl), c3 cb (by rw [cv]; rfl), ⟨ccell 0 _ rfl, ccell 1 _ rfl, ccell 2 _ rfl⟩, pcell 0 _ rfl, pcell 1 _ rfl, pcell 2 _ rfl, pcell 3 _ rfl, pcell 4 _ rfl, pcell 5 _ rfl, pcell 6 _ rfl, pcell 7 _ rfl⟩
end Go.Proofs.Qxb6500293aGreatRR
