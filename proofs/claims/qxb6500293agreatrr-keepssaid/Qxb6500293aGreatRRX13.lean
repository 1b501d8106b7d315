/-
  enter: its arguments (a window, or a row of the call's own), plain and in memory.
-/
import Derived.Test.Qxb6500293aGreatRRX12
namespace Go.Proofs.Qxb6500293aGreatRR
open Go.RowKit
set_option linter.unusedVariables false
set_option linter.unusedSimpArgs false

def enterP (M : Mc) (i c : Nat) (args : List V) (ret : Nat) (prot : Bool) : Mc :=
  M.setT i { M.t i with sk := (M.t i).sk ++ (List.range (M.p c).ns).map (fun j => if j < (M.p c).np then args[j]?.getD nilV else nilV), fr := (M.t i).fr ++ [⟨c, 0, (M.t i).sk.length, ret, prot⟩] }
theorem owns_base {W : World} {b b' : Nat} {e : TypeId} {sz n : Nat} {v : Value} {xs : List Value} (h : W.ownsRow b e sz v n xs) (hb : b' ≤ b) : W.ownsRow b' e sz v n xs := by
  refine ⟨h.1, ?_⟩
  rcases h.2 with hn | ⟨g, cap, cur, h1, h2, rest⟩
  · exact .inl hn
  · exact .inr ⟨g, cap, cur, h1, Nat.le_trans hb h2, rest⟩
/-- The arguments of a call. -/
def AV (n0 : Nat) (W : World) (av : Value) (l : List V) : Prop := ∃ b k cap, av = .slice (some ⟨b, k, none⟩) l.length cap ∧ b < W.heap.size ∧ (∀ j u, (l.flatMap valC)[j]? = some u → W.cell? ⟨b, k + j, none⟩ = some u) ∧ (cap = l.length ∨ W.ownsRow n0 33 3 av l.length (l.flatMap valC))
theorem add_at (b k j : Nat) : (⟨b, k, none⟩ : Addr).add j = ⟨b, k + j, none⟩ := by
  simp [Addr.add]
theorem AV.grow {n0 : Nat} {W : World} {av : Value} {l : List V} (h : AV n0 W av l) (hn0 : n0 ≤ W.heap.size) (hl : l.length ≤ 100) (ty : TypeId) :
    ∃ av' W', (Builtin.append_ #[53, 53] ty #[av, .slice (some ⟨W.heap.size, 0, none⟩) 1 1]).run Tryz.prog (W.alloc (.cells #[.int .i64 0, .int .u64 0, .string ⟨#[]⟩] 33)) = .ok av' W' ∧ AV n0 W' av' (l ++ [nilV]) ∧ (∃ g cp, av' = .slice (some ⟨g, 0, none⟩) (l.length + 1) cp ∧ n0 ≤ g) ∧ Below n0 W W' := by
  obtain ⟨b, k, cap, rfl, hb, hc, hor⟩ := h
  obtain ⟨i0, hi, hz0, hz1, hz2⟩ := info_parts info33
  have hnew : ∀ j u, (valC nilV)[j]? = some u → (W.alloc (.cells #[.int .i64 0, .int .u64 0, .string ⟨#[]⟩] 33)).cell? ((⟨W.heap.size, 0, none⟩ : Addr).add j) = some u := by
    intro j u hu
    have h1 : (W.alloc (.cells #[.int .i64 0, .int .u64 0, .string ⟨#[]⟩] 33)).heap[W.heap.size]? = some (.cells #[.int .i64 0, .int .u64 0, .string ⟨#[]⟩] 33) := World.alloc_heap_new _ _
    rw [add_at, Nat.zero_add]
    simp only [World.cell?, h1]
    simpa [valC, nilV] using hu
  have hone : ∀ u ∈ valC nilV, u.oneCell' = true := by simp [valC, nilV, Value.oneCell']
  have hba : Below W.heap.size W (W.alloc (.cells #[.int .i64 0, .int .u64 0, .string ⟨#[]⟩] 33)) := below_one _ _
  have hlen : (l ++ [nilV]).length = l.length + 1 := by simp
  have hflat : (l ++ [nilV]).flatMap valC = l.flatMap valC ++ valC nilV := by simp
  have fin : ∀ v' W', W'.ownsRow n0 33 3 v' (l.length + 1) (l.flatMap valC ++ valC nilV) → AV n0 W' v' (l ++ [nilV]) ∧ (∃ g cp, v' = .slice (some ⟨g, 0, none⟩) (l.length + 1) cp ∧ n0 ≤ g) := by
    intro v' W' hr
    rcases hr.2 with ⟨_, h0⟩ | ⟨g, cp, cur, rfl, hbg, hgg, _⟩
    · omega
    · refine ⟨?_, g, cp, rfl, hbg⟩
      refine ⟨g, 0, cp, by rw [hlen], (Array.getElem?_eq_some_iff.1 hgg).1, ?_, .inr (by rw [hlen, hflat]; exact hr)⟩
      intro j u hu
      rw [hflat] at hu
      have hj : j < (l.length + 1) * 3 := by rw [← hr.1]; exact (List.getElem?_eq_some_iff.1 hu).1
      rw [Nat.zero_add, row_at (owns_base hr (Nat.zero_le _)) hj, hu]
  rcases hor with hcap | hown
  · subst hcap
    obtain ⟨v', w', hr, hrow, hg⟩ := run_append_arg_grows (P := Tryz.prog) (W.alloc (.cells #[.int .i64 0, .int .u64 0, .string ⟨#[]⟩] 33)) 53 ty 33 i0 zVal 3 32 Tryz.underlying53 hi hz0 hz1 hz2 rfl (by decide) ⟨b, k, none⟩ l.length l.length (l.flatMap valC) (flat_len valC 3 valC_len l) (fun j u hu => by rw [add_at]; exact (hba.cell (p := ⟨b, k + j, none⟩) hb).trans (hc j u hu)) ⟨W.heap.size, 0, none⟩ 1 1 (valC nilV) rfl hnew (by omega) (by unfold maxLen; omega) (by omega)
    refine ⟨v', w', hr, (fin _ _ (owns_base hrow (by simp; omega))).1, (fin _ _ (owns_base hrow (by simp; omega))).2, ?_⟩
    have h1 : Below n0 W (W.alloc (.cells #[.int .i64 0, .int .u64 0, .string ⟨#[]⟩] 33)) := hba.mono hn0
    refine ⟨hg.os.trans h1.os, hg.tape.trans h1.tape, hg.output.trans h1.output, Nat.le_trans h1.size hg.size, fun q hq => (hg.block q (by have := hba.size; omega) (by simp)).trans (h1.block q hq)⟩
  · obtain ⟨v', w', hr, h2, h3, _, _⟩ := run_append_own_at (P := Tryz.prog) (W.alloc (.cells #[.int .i64 0, .int .u64 0, .string ⟨#[]⟩] 33)) n0 53 ty 33 i0 zVal 3 32 Tryz.underlying53 hi hz0 hz1 hz2 rfl (by decide) _ l.length (l.flatMap valC) (hown.alloc _) ⟨W.heap.size, 0, none⟩ 1 1 (valC nilV) rfl hnew hone (by unfold maxLen; omega) (by omega) (by simp; omega)
    refine ⟨v', w', hr, (fin _ _ h2).1, (fin _ _ h2).2, ?_⟩
    have h1 : Below n0 W (W.alloc (.cells #[.int .i64 0, .int .u64 0, .string ⟨#[]⟩] 33)) := hba.mono hn0
    refine ⟨h3.os.trans h1.os, h3.tape.trans h1.tape, h3.output.trans h1.output, Nat.le_trans h1.size h3.size, fun q hq => (h3.block q (by have := hba.size; omega) ?_).trans (h1.block q hq)⟩
    intro e
    rcases hown.2 with ⟨hnil, _⟩ | ⟨g, cp, cur, hv, hbg, _⟩
    · cases hnil
    · rw [hv] at e
      have : q = g := by cases e; rfl
      omega
end Go.Proofs.Qxb6500293aGreatRR
