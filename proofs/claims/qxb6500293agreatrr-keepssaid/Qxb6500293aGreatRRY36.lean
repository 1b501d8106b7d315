/-
  call: what its walk needs.
-/
import Derived.Test.Qxb6500293aGreatRRY34
import Derived.Test.Qxb6500293aGreatRRZ5
namespace Go.Proofs.Qxb6500293aGreatRR
open Go.RowKit
open Ieee (double)
set_option linter.unusedVariables false
set_option linter.unusedSimpArgs false

/-- Behind the burn and the step of pc. -/
def Mc.kk (M : Mc) (i : Nat) : Mc := setPc { M with fuel := M.fuel - 1 } i ((M.t i).f.pc + 1)
theorem kk_set {M : Mc} {i n : Nat} (h : (M.t i).fr.length = n + 1) : ({ M with fuel := M.fuel - 1 } : Mc).setT i { ({ M with fuel := M.fuel - 1 } : Mc).t i with fr := (({ M with fuel := M.fuel - 1 } : Mc).t i).fr.set n { (M.t i).f with pc := (M.t i).f.pc + 1 } } = M.kk i := by
  unfold Mc.kk setPc Th.setF
  have e : (({ M with fuel := M.fuel - 1 } : Mc).t i) = M.t i := rfl
  rw [e, h, Nat.add_sub_cancel]
theorem callP_eq {M : Mc} {i : Nat} (x : Nat) (h : ¬ M.fuel = 0) : callP M i x = callB { M with fuel := M.fuel - 1 } i x := by
  unfold callP burnP
  rw [if_neg h]
  rfl
theorem flat_drop (l : List V) (k : Nat) : (l.drop k).flatMap valC = (l.flatMap valC).drop (k * 3) := by
  induction k generalizing l with
  | zero => simp
  | succ k ih =>
    cases l with
    | nil => simp
    | cons v r =>
      have h3 : (valC v).length = 3 := rfl
      rw [List.drop_succ_cons, ih, List.flatMap_cons, show (k + 1) * 3 = 3 + k * 3 by omega, ← List.drop_drop, List.drop_left' h3]
section
variable {own : Nat → Nat} {W : World} {m a nb tp : Nat} {M : Mc}
/-- The stack, as its slice bears it. -/
theorem Vm.skAll (HV : Vm own W m a nb tp M) {i : Nat} (hi : i < M.th.length) (h0 : 0 < (M.t i).sk.length) : ∃ b cp, W.cell? ⟨a, i * 5 + 2, none⟩ = some (.slice (some ⟨b, 0, none⟩) (M.t i).sk.length cp) ∧ (M.t i).sk.length ≤ cp ∧ b < W.heap.size ∧ own b = 409 + 3 * i ∧ ∀ j u, ((M.t i).sk.flatMap valC)[j]? = some u → W.cell? ⟨b, j, none⟩ = some u := by
  obtain ⟨b, cp, h1, h2, h3, h4, _⟩ := HV.skE hi h0
  obtain ⟨vals, L, H⟩ := HV
  obtain ⟨s2, srow, scol⟩ := H.skRow hi
  rw [h1] at s2
  injection s2 with s2
  rw [← s2] at srow
  refine ⟨b, cp, h1, h2, h3, h4, fun j u hu => ?_⟩
  have hj : j < (M.t i).sk.length * 3 := by rw [← srow.1]; exact (List.getElem?_eq_some_iff.1 hu).1
  rw [row_at srow hj, hu]
/-- The arguments of a call: a window of the stack. -/
theorem Vm.args (HV : Vm own W m a nb tp M) {i : Nat} (hi : i < M.th.length) {q x : Nat} (hq : (M.t i).sk.length = q + 1 + x) {sb scp : Nat} (hs : W.cell? ⟨a, i * 5 + 2, none⟩ = some (.slice (some ⟨sb, 0, none⟩) (q + 1 + x) scp)) :
    ∃ k0, (if q + 1 + x = q + 1 then some (⟨sb, 0, none⟩ : Addr) else some ⟨sb, (q + 1) * 3, none⟩) = some ⟨sb, k0, none⟩ ∧ k0 + x * 3 ≤ (q + 1 + x) * 3 ∧ ((M.t i).sk.drop (q + 1)).length = x ∧ AV W.heap.size W (.slice (some ⟨sb, k0, none⟩) x x) ((M.t i).sk.drop (q + 1)) ∧ sb ≠ a := by
  obtain ⟨b, cp, h1, h2, h3, h4, h5⟩ := HV.skAll hi (by omega)
  rw [hs, hq] at h1
  injection h1 with h1
  have hb : b = sb := by cases h1; rfl
  subst hb
  have hlen : ((M.t i).sk.drop (q + 1)).length = x := by rw [List.length_drop]; omega
  have hne : b ≠ a := by
    rintro rfl
    obtain ⟨vals, L, H⟩ := HV
    have := H.ac
    have := (H.thr hi).2.1
    omega
  by_cases h0 : x = 0
  · subst h0
    refine ⟨0, by simp, by omega, hlen, ⟨b, 0, 0, by rw [hlen], h3, ?_, .inl (by rw [hlen])⟩, hne⟩
    intro j u hu
    rw [List.eq_nil_of_length_eq_zero hlen] at hu
    simp at hu
  · refine ⟨(q + 1) * 3, by rw [if_neg (by omega)], by omega, hlen, ⟨b, (q + 1) * 3, x, by rw [hlen], h3, ?_, .inl hlen.symm⟩, hne⟩
    intro j u hu
    rw [flat_drop, List.getElem?_drop] at hu
    exact h5 _ _ hu
end
/-- What the arguments' pointer bears. -/
theorem AV.arg {n0 : Nat} {w : World} {b k cap : Nat} {l : List V} (h : AV n0 w (.slice (some ⟨b, k, none⟩) l.length cap) l) {j : Nat} (hj : j < l.length) : Arg w b (k + j * 3) (l[j]?.getD nilV) ∧ b < w.heap.size := by
  obtain ⟨b', k', cap', h1, h2, h3, _⟩ := h
  cases h1
  have hl : l[j]? = some (l[j]?.getD nilV) := at_some hj
  have key : ∀ r u, (valC (l[j]?.getD nilV))[r]? = some u → w.cell? ⟨b, k + (j * 3 + r), none⟩ = some u := by
    intro r u hu
    apply h3
    have hr : r < 3 := by have := (List.getElem?_eq_some_iff.1 hu).1; exact this
    have e := flat_drop l j
    have : (l.flatMap valC)[j * 3 + r]? = ((l.flatMap valC).drop (j * 3))[r]? := by rw [List.getElem?_drop]
    rw [this, ← e, List.drop_eq_getElem_cons hj, List.flatMap_cons, List.getElem?_append_left hr]
    rw [List.getElem?_eq_getElem hj] at hu
    exact hu
  exact ⟨⟨key 0 _ rfl, key 1 _ rfl, key 2 _ rfl⟩, h2⟩
section
variable {own : Nat → Nat} {W w : World} {m a nb tp i : Nat} {B : List (Nat × Obj)} {M : Mc}
/-- Behind a callee that may move the frames. -/
theorem Rm.vmX (h : Rm own W m a nb tp i B M w) : ∃ own', Vm own' w m a nb tp M ∧ (∀ M2 w2, Nf own' w m a nb tp i M2 w2 → Rm own W m a nb tp i B M2 w2) ∧ (∀ M2 w2, Nx own' w m a nb tp M2 w2 → Rn own W m a nb tp i (w2.cell? ⟨a, i * 5 + 3, none⟩) B M2 w2) := by
  obtain ⟨own1, hv, hN, hX⟩ := h.rn.vm
  exact ⟨own1, hv, fun M2 w2 hn => ⟨hN _ _ hn⟩, hX⟩
/-- The event's box is written. -/
abbrev putE (w : World) (n : Nat) (x0 x1 x2 x3 x4 x5 x6 x7 x8 : Value) : World := ((((((((w.setCell ⟨n, 0, none⟩ x0).setCell ⟨n, 1, none⟩ x1).setCell ⟨n, 2, none⟩ x2).setCell ⟨n, 3, none⟩ x3).setCell ⟨n, 4, none⟩ x4).setCell ⟨n, 5, none⟩ x5).setCell ⟨n, 6, none⟩ x6).setCell ⟨n, 7, none⟩ x7).setCell ⟨n, 8, none⟩ x8
theorem Rn.putE {fs : Option Value} (h : Rn own W m a nb tp i fs B M w) {n : Nat} (hb : n ∈ B.map Prod.fst) (x0 x1 x2 x3 x4 x5 x6 x7 x8 : Value) : Nx own W m a nb tp M (putE w n x0 x1 x2 x3 x4 x5 x6 x7 x8) :=
  (((((((((h.weak.put hb 0 x0).put hb 1 x1).put hb 2 x2).put hb 3 x3).put hb 4 x4).put hb 5 x5).put hb 6 x6).put hb 7 x7).put hb 8 x8).nx
end
end Go.Proofs.Qxb6500293aGreatRR
