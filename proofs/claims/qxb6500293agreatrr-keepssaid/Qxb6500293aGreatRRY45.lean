/-
  loop: the instructions' steps, in the midst.
-/
import Derived.Test.Qxb6500293aGreatRRY44
namespace Go.Proofs.Qxb6500293aGreatRR
open Go.RowKit
open Ieee (double)
set_option linter.unusedVariables false
set_option linter.unusedSimpArgs false

section
variable {own : Nat → Nat} {W w : World} {m a nb tp i : Nat} {fs : Option Value} {B : List (Nat × Obj)} {K : Mc}
/-- The machine in the midst, with all that a callee's end is turned by. -/
theorem Rn.vmF (h : Rn own W m a nb tp i fs B K w) : ∃ own', Vm own' w m a nb tp K ∧ (∀ M2 w2, Nf own' w m a nb tp i M2 w2 → Rn own W m a nb tp i fs B M2 w2) ∧ (∀ M2 w2, Nx own' w m a nb tp M2 w2 → Rn own W m a nb tp i (w2.cell? ⟨a, i * 5 + 3, none⟩) B M2 w2) ∧
    (∀ {o : Ou Unit} {val : Unit → Value} {e : Ending} {w' : World}, o.k ≠ 0 → OuEf own' w m a nb tp i o val e w' → OuEnd own W m a nb tp (⟨o.k, o.M, noEv, o.v, o.e⟩ : Ou Ev) evV e w') ∧
    (∀ {o : Ou Ev} {e : Ending} {w' : World}, OuEnd own' w m a nb tp o evV e w' → OuEnd own W m a nb tp o evV e w') := by
  obtain ⟨own1, hv, hN, hX⟩ := h.vm
  have hs : W.heap.size ≤ w.heap.size := by obtain ⟨_, _, _, g3, _⟩ := h; exact g3.size
  refine ⟨own1, hv, hN, hX, ?_, ?_⟩
  · intro o val e w' hk hE
    rcases hE with ⟨h1, _⟩ | ⟨h1, ⟨b, h2, h3, h4⟩, h5⟩ | ⟨h1, h2, h5⟩
    · exact absurd h1 hk
    · exact .inr (.inl ⟨h1, ⟨b, h2, Nat.le_trans hs h3, h4⟩, (hX _ _ h5).nx⟩)
    · exact .inr (.inr ⟨h1, h2, (hX _ _ h5).nx⟩)
  · intro o e w' hE
    rcases hE with ⟨h1, h2, h3⟩ | ⟨h1, ⟨b, h2, h3, h4⟩, h5⟩ | ⟨h1, h2, h5⟩
    · exact .inl ⟨h1, h2, (hX _ _ h3).nx⟩
    · exact .inr (.inl ⟨h1, ⟨b, h2, Nat.le_trans hs h3, h4⟩, (hX _ _ h5).nx⟩)
    · exact .inr (.inr ⟨h1, h2, (hX _ _ h5).nx⟩)
/-- 'f.pc++'. -/
theorem Rn.pc1 {fb n cp : Nat} (h : Rn own W m a nb tp i (some (.slice (some ⟨fb, 0, none⟩) (n + 1) cp)) B K w) (hi : i < K.th.length) (hn : (K.t i).fr.length = n + 1) :
    w.cell? ⟨fb, n * 5 + 1, none⟩ = some (i64 (K.t i).f.pc) ∧ w.frozen? ⟨fb, n * 5 + 1, none⟩ = false ∧ fb < w.heap.size ∧ Rn own W m a nb tp i (some (.slice (some ⟨fb, 0, none⟩) (n + 1) cp)) B (Go.Proofs.Qxb6500293aGreatRR.pc1 K i) (w.setCell ⟨fb, n * 5 + 1, none⟩ (i64 ((K.t i).f.pc + 1))) := by
  obtain ⟨own1, hv, hN, hX⟩ := h.vm
  have hfa := Th.f_at (t := K.t i) (by omega)
  rw [hn, Nat.add_sub_cancel] at hfa
  obtain ⟨_, g1, _, gz, _, g3, _, _, _, g8⟩ := hv.frame hi h.frs hfa
  refine ⟨g3, gz _, g1, ?_⟩
  have h9 := hN _ _ (g8 1 (i64 ((K.t i).f.pc + 1)) { (K.t i).f with pc := (K.t i).f.pc + 1 } (by omega) rfl)
  have e : K.setT i { K.t i with fr := (K.t i).fr.set n { (K.t i).f with pc := (K.t i).f.pc + 1 } } = Go.Proofs.Qxb6500293aGreatRR.pc1 K i := by
    unfold Go.Proofs.Qxb6500293aGreatRR.pc1 setPc Th.setF
    rw [hn, Nat.add_sub_cancel]
  rw [e] at h9
  exact h9
/-- A round's end by f.pc++. -/
theorem dropP_fr {K : Mc} {i : Nat} (hi : i < K.th.length) : ((dropP K i).t i).fr = (K.t i).fr ∧ (dropP K i).th.length = K.th.length := ⟨by rw [drop_t hi], th_setT K i _⟩
end
theorem fly {M Mx : Mc} {i : Nat} {o : Ou Unit} {F : Mc → Unit → Ou Ev} (hs : stepP Mx i = o.then noEv F) (hl : loopP M i = loopP Mx i) (hk : o.k ≠ 0) : loopP M i = ⟨o.k, o.M, noEv, o.v, o.e⟩ := by
  have e : o.then noEv F = ⟨o.k, o.M, noEv, o.v, o.e⟩ := if_neg hk
  rw [LpI.fin hl (by rw [hs, e]; intro h; exact hk h.1), hs, e]
theorem instP_21 (M : Mc) (i x : Nat) : instP M i 21 x = (jumpP M i x).then noEv fun M _ => ok M noEv := rfl
theorem instP_26 (M : Mc) (i x : Nat) : instP M i 26 x = callP M i x := rfl
theorem instP_27 (M : Mc) (i x : Nat) : instP M i 27 x = ok (retP M i).1 (retP M i).2 := rfl
theorem instP_pl {M : Mc} {i op x : Nat} (h : op < 21 ∨ op = 25 ∨ 28 ≤ op) : instP M i op x = (plainP M i op x).then noEv fun M _ => ok (pc1 M i) noEv := by
  unfold instP
  rw [if_neg (by omega), if_neg (by omega), if_neg (by omega), if_neg (by omega), if_neg (by omega)]
theorem then_ok {o : Ou Unit} {F : Mc → Unit → Ou Ev} (h : o.k = 0) : o.then noEv F = F o.M () := if_pos h
end Go.Proofs.Qxb6500293aGreatRR
