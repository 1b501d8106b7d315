/-
  An append turns nothing that lay there; push, said so.
-/
import Derived.Test.Qxb6500293aGreatRRX11
import Derived.ArgAppend
import Derived.Laws.OwnMore
namespace Go.Proofs.Qxb6500293aGreatRR
open Go.RowKit
set_option linter.unusedVariables false
set_option linter.unusedSimpArgs false

theorem row_at {W : World} {e : TypeId} {sz n b cp o : Nat} {xs : List Value} (h : W.ownsRow 0 e sz (.slice (some ⟨b, 0, none⟩) n cp) n xs) (ho : o < n * sz) : W.cell? ⟨b, o, none⟩ = xs[o]? := by
  obtain ⟨cur, hb, hs, hn, hm, hl, hx⟩ := ownsRow_at h
  rw [← hx o ho]
  simp [World.cell?, hb]
theorem ok_inj {α : Type} {v v' : α} {w w' : World} (h : (Result.ok v w : Result α) = .ok v' w') : v = v' ∧ w = w' := by
  cases h
  exact ⟨rfl, rfl⟩
set_option maxRecDepth 8000 in
theorem append_keeps {W W' : World} {vo v' : Value} {n : Nat} {xs : List Value} (h : W.ownsRow 0 33 3 vo n xs) (hn : n ≤ 100000) (b k cap : Nat) (vs : List V) (hm : vs.length ≤ 100) (hc : ∀ j u, (vs.flatMap valC)[j]? = some u → W.cell? ((⟨b, k, none⟩ : Addr).add j) = some u) (ty : TypeId)
    (hrun : (Builtin.append_ #[53, 53] ty #[vo, .slice (some ⟨b, k, none⟩) vs.length cap]).run Tryz.prog W = .ok v' W') (hg : W.grownBy W' vo.ownBlock) (q o : Nat) (hq : q < W.heap.size) (ho : vo.ownBlock = some q → o < n * 3) : W'.cell? ⟨q, o, none⟩ = W.cell? ⟨q, o, none⟩ := by
  obtain ⟨i0, hi, hz0, hz1, hz2⟩ := info_parts info33
  have hone : ∀ u ∈ vs.flatMap valC, u.oneCell' = true := by
    intro u hu
    rw [List.mem_flatMap] at hu
    obtain ⟨v, _, hv⟩ := hu
    simp [valC] at hv
    rcases hv with rfl | rfl | rfl <;> rfl
  by_cases hvo : vo.ownBlock = some q
  · have hoo := ho hvo
    clear ho
    rcases h.2 with ⟨hnil, _⟩ | ⟨g, cp, cur, hv, _⟩
    · rw [hnil] at hvo
      cases hvo
    · subst hv
      have hgq : g = q := by cases hvo; rfl
      subst hgq
      by_cases hroom : n + vs.length ≤ cp
      · obtain ⟨w2, hr2, hrow2, _⟩ := run_append_fits (P := Tryz.prog) W 0 53 ty 33 i0 3 Tryz.underlying53 hi hz1 g n cp xs h ⟨b, k, none⟩ vs.length cap (vs.flatMap valC) (flat_len valC 3 valC_len vs) hc hone hroom
        obtain ⟨h1, h2⟩ := ok_inj (hrun.symm.trans hr2)
        subst h1 h2
        rw [row_at hrow2 (by omega), row_at h hoo, List.getElem?_append_left (by rw [h.1]; exact hoo)]
      · obtain ⟨v2, w2, hr2, hrow2, hg2⟩ := run_append_arg_grows (P := Tryz.prog) W 53 ty 33 i0 zVal 3 32 Tryz.underlying53 hi hz0 hz1 hz2 rfl (by decide) ⟨g, 0, none⟩ n cp xs h.1 (fun j u hu => by
            have hj : j < n * 3 := by rw [← h.1]; exact (List.getElem?_eq_some_iff.1 hu).1
            have e : (⟨g, 0, none⟩ : Addr).add j = ⟨g, j, none⟩ := by simp [Addr.add]; intro h; rw [h]
            rw [e, row_at h hj, hu]) ⟨b, k, none⟩ vs.length cap (vs.flatMap valC) (flat_len valC 3 valC_len vs) hc (by omega) (by unfold maxLen; omega) (by omega)
        obtain ⟨h1, h2⟩ := ok_inj (hrun.symm.trans hr2)
        subst h1 h2
        exact World.cell?_of_block (a := ⟨g, o, none⟩) (hg2.block g hq (by simp))
  · exact World.cell?_of_block (a := ⟨q, o, none⟩) (hg.block q hq (fun e => hvo e.symm))
set_option maxRecDepth 8000 in
set_option maxHeartbeats 800000 in
theorem push_keeps {own : Nat → Nat} {W : World} {m a nb tp : Nat} {M : Mc} (HV : Vm own W m a nb tp M) {i : Nat} (hi : i < M.th.length) (hs : (M.t i).sk.length ≤ 20000) (b k cap : Nat) (vs : List V) (hm : vs.length ≤ 100) (hc : ∀ j u, (vs.flatMap valC)[j]? = some u → W.cell? ((⟨b, k, none⟩ : Addr).add j) = some u) :
    Calls Tryz.prog 60 #[.pointer (some ⟨a, i * 5, none⟩), .slice (some ⟨b, k, none⟩) vs.length cap] W fun e W' => e = .returned (.tuple #[]) ∧ Nf own W m a nb tp i (pushP M i vs) W' ∧ (∀ q n' cp', W'.cell? ⟨a, i * 5 + 2, none⟩ = some (.slice (some ⟨q, 0, none⟩) n' cp') → W.heap.size ≤ q ∨ ∃ n cp, W.cell? ⟨a, i * 5 + 2, none⟩ = some (.slice (some ⟨q, 0, none⟩) n cp) ∧ n ≤ n') ∧ ∀ q o, q < W.heap.size → q ≠ a → (∀ n cp, W.cell? ⟨a, i * 5 + 2, none⟩ = some (.slice (some ⟨q, 0, none⟩) n cp) → o < n * 3) → W'.cell? ⟨q, o, none⟩ = W.cell? ⟨q, o, none⟩ := by
  obtain ⟨vals, L, H⟩ := HV
  obtain ⟨c2, hrow, hcol⟩ := H.skRow hi
  obtain ⟨v', W7, happ, hr7, hg7, hv7⟩ := append_vals hrow (by omega) b k cap vs hm hc 53
  obtain ⟨ad', cp', rfl⟩ := row_slice hr7
  have HN : Hid (Nf own W m a nb tp i (pushP M i vs) (W7.setCell ⟨a, i * 5 + 2, none⟩ (.slice ad' ((M.t i).sk.length + vs.length) cp'))) := by
    refine H.skNx hi hg7 ((M.t i).sk ++ vs) ?_ hv7
    rw [List.length_append, List.flatMap_append]
    exact hr7
  have HK : Hid (∀ q o, q < W.heap.size → q ≠ a → (∀ n cp, W.cell? ⟨a, i * 5 + 2, none⟩ = some (.slice (some ⟨q, 0, none⟩) n cp) → o < n * 3) → (W7.setCell ⟨a, i * 5 + 2, none⟩ (.slice ad' ((M.t i).sk.length + vs.length) cp')).cell? ⟨q, o, none⟩ = W.cell? ⟨q, o, none⟩) := by
    intro q o hq hqa ho
    refine (World.cell?_of_block (a := ⟨q, o, none⟩) (Below.heap_setCell _ _ _ _ hqa)).trans (append_keeps hrow (by omega) b k cap vs hm hc 53 happ hg7 q o hq ?_)
    intro e
    rcases hrow.2 with ⟨hnil, _⟩ | ⟨g, cp, cur, hv, _⟩
    · rw [hnil] at e
      cases e
    · have : g = q := by rw [hv] at e; cases e; rfl
      subst this
      exact ho _ cp (by rw [c2, hv])
  have HQ : Hid (∀ q n' cp'', (W7.setCell ⟨a, i * 5 + 2, none⟩ (.slice ad' ((M.t i).sk.length + vs.length) cp')).cell? ⟨a, i * 5 + 2, none⟩ = some (.slice (some ⟨q, 0, none⟩) n' cp'') → W.heap.size ≤ q ∨ ∃ n cp, W.cell? ⟨a, i * 5 + 2, none⟩ = some (.slice (some ⟨q, 0, none⟩) n cp) ∧ n ≤ n') := by
    intro q n' cp'' hq
    have ha7 : W7.heap[a]? = W.heap[a]? := hg7.block a H.alt (fun e => by have := hcol a e.symm; have := H.ac; omega)
    have c7 : W7.cell? ⟨a, i * 5 + 2, none⟩ = some (vals (8 + 3 * i)) := (World.cell?_of_block (a := ⟨a, i * 5 + 2, none⟩) ha7).trans c2
    rw [World.cell?_setCell_same' _ _ _ (by rw [c7]; rfl)] at hq
    cases hq
    rcases hv7 q rfl with h | h
    · right
      rcases hrow.2 with ⟨hnil, _⟩ | ⟨g, cp, cur, hv, _⟩
      · rw [hnil] at h
        cases h
      · have : g = q := by rw [hv] at h; cases h; rfl
        subst this
        exact ⟨_, cp, by rw [c2, hv], by omega⟩
    · exact .inl h
  have ha7 : W7.heap[a]? = W.heap[a]? := hg7.block a H.alt (fun e => by have := hcol a e.symm; have := H.ac; omega)
  have c7 : W7.cell? ⟨a, i * 5 + 2, none⟩ = some (vals (8 + 3 * i)) := (World.cell?_of_block (a := ⟨a, i * 5 + 2, none⟩) ha7).trans c2
  have f7 : W7.frozen? ⟨a, i * 5 + 2, none⟩ = false := (World.frozen?_of_block (a := ⟨a, i * 5 + 2, none⟩) ha7).trans (H.az _)
  generalize vals (8 + 3 * i) = v0 at *
  clear H hrow hcol hr7 hg7 hv7 ha7 hc hs
  go_enter Tryz.func60, Tryz.ntmps60
  go_wp2_with (at_builtin; refine wpList_append_eq rfl _ _ 53 rfl _ _ _ _ rfl rfl happ ?_)
  go_end0
  exact ⟨rfl, HN.out, HQ.out, HK.out⟩
end Go.Proofs.Qxb6500293aGreatRR
