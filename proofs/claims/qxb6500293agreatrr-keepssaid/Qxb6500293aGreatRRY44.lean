/-
  loop: its rounds' ends.
-/
import Derived.Test.Qxb6500293aGreatRRY43
namespace Go.Proofs.Qxb6500293aGreatRR
open Go.RowKit
open Ieee (double)
set_option linter.unusedVariables false
set_option linter.unusedSimpArgs false

theorem LpC.below {w w' : World} {m a : Nat} {M : Mc} {i fb n cp pb pn pcp cb cn ccp clo P pc base ns nc co : Nat} (h : LpC w m a M i fb n cp pb pn pcp cb cn ccp clo P pc base ns nc co) (hb : Below w.heap.size w w') : LpC w' m a M i fb n cp pb pn pcp cb cn ccp clo P pc base ns nc co :=
  ⟨(hb.cell (p := ⟨a, i * 5 + 3, none⟩) h.al).trans h.fr, h.frl, (hb.cell (p := ⟨m, 2, none⟩) h.ml).trans h.m2, (hb.cell (p := ⟨m, 6, none⟩) h.ml).trans h.m6, (hb.cell (p := ⟨cb, clo * 3, none⟩) h.cbl).trans h.c0, (hb.cell (p := ⟨fb, n * 5, none⟩) h.fbl).trans h.f0, (hb.cell (p := ⟨fb, n * 5 + 1, none⟩) h.fbl).trans h.f1, (hb.cell (p := ⟨fb, n * 5 + 2, none⟩) h.fbl).trans h.f2, (hb.cell (p := ⟨pb, P * 8 + 1, none⟩) h.pbl).trans h.p1, (hb.cell (p := ⟨pb, P * 8 + 6, none⟩) h.pbl).trans h.p6, (hb.cell (p := ⟨pb, P * 8 + 7, none⟩) h.pbl).trans h.p7, h.hclo, h.hP, Nat.lt_of_lt_of_le h.al hb.size, Nat.lt_of_lt_of_le h.ml hb.size, Nat.lt_of_lt_of_le h.fbl hb.size, Nat.lt_of_lt_of_le h.pbl hb.size, Nat.lt_of_lt_of_le h.cbl hb.size, (World.frozen?_of_block (a := ⟨fb, n * 5 + 1, none⟩) (hb.block fb h.fbl)).trans h.fz, h.b1, h.b2, h.b3, h.b4, h.b5, h.b6, h.fba, h.eq⟩
theorem Rn.sub {own : Nat → Nat} {W w : World} {m a nb tp i : Nat} {fs : Option Value} {B B' : List (Nat × Obj)} {M : Mc} (h : Rn own W m a nb tp i fs B M w) (hs : ∀ p ∈ B', p ∈ B) : Rn own W m a nb tp i fs B' M w := by
  obtain ⟨own', g1, g2, g3, g4, g5⟩ := h
  exact ⟨own', g1, g2, g3, fun p hp => g4 p (hs p hp), g5⟩
/-- What stands at the head of a round. -/
def LpI (own : Nat → Nat) (W : World) (m a nb tp i : Nat) (M : Mc) (g : Nat) (Mx : Mc) (wr : World) : Prop := meas Mx i = g ∧ Alive Mx (some i) ∧ i < Mx.th.length ∧ (∃ fs, Rn own W m a nb tp i fs [(W.heap.size + 1, zEv), (W.heap.size, zEv)] Mx wr) ∧ loopP M i = loopP Mx i
section
variable {own : Nat → Nat} {W w : World} {m a nb tp i : Nat} {M Mx M2 : Mc} {g : Nat}
/-- The loop goes on. -/
theorem LpI.go (hA : Alive Mx (some i)) (hi : i < Mx.th.length) (hg : meas Mx i = g) (hl : loopP M i = loopP Mx i) (hs : stepP Mx i = ok M2 noEv) {fs : Option Value} {B : List (Nat × Obj)} (hR : Rn own W m a nb tp i fs B M2 w) (h1 : (W.heap.size + 1, zEv) ∈ B) (h0 : (W.heap.size, zEv) ∈ B) : meas M2 i < g ∧ LpI own W m a nb tp i M (meas M2 i) M2 w := by
  have k := step_keeps hA hi
  have hgo : goes (stepP Mx i) := by rw [hs]; exact ⟨rfl, rfl⟩
  have e : (stepP Mx i).M = M2 := by rw [hs]; rfl
  have hd := k.dec0 hgo.1 hgo.2
  have hr := k.run (fun q => q.2 hgo.2)
  have ht := k.th
  rw [e] at hd hr ht
  refine ⟨by omega, rfl, hr, by omega, ⟨fs, hR.sub ?_⟩, ?_⟩
  · intro p hp
    simp only [List.mem_cons, List.not_mem_nil, or_false] at hp
    rcases hp with rfl | rfl
    · exact h1
    · exact h0
  · rw [hl, loopP_go hA hi hgo, e]
/-- The loop ends. -/
theorem LpI.fin (hl : loopP M i = loopP Mx i) (h : ¬ ((stepP Mx i).k = 0 ∧ (stepP Mx i).x.K = 0)) : loopP M i = stepP Mx i := by
  rw [hl]
  exact loopP_end h
end
theorem stepP_at {M : Mc} {i op x : Nat} (h1 : (M.t i).f.pc < (M.p (M.t i).f.clo).nc) (hc : M.co[(M.p (M.t i).f.clo).co + (M.t i).f.pc]?.getD (0, 0) = (op, x)) : stepP M i = if testP M i op x then instP M i op x else trp M noEv 11 := by
  unfold stepP
  simp only
  rw [if_neg (by omega), hc]
theorem callP_ev {M : Mc} {i x : Nat} (h0 : (callP M i x).k = 0) (hK : (callP M i x).x.K = 0) : (callP M i x).x = noEv := by
  unfold callP burnP at *
  split
  · rfl
  · rename_i h
    rw [if_neg h] at h0 hK
    have h0 : (callB { M with fuel := M.fuel - 1 } i x).k = 0 := h0
    have hK : (callB { M with fuel := M.fuel - 1 } i x).x.K = 0 := hK
    show (callB { M with fuel := M.fuel - 1 } i x).x = noEv
    generalize ({ M with fuel := M.fuel - 1 } : Mc) = K at *
    unfold callB at *
    simp only at *
    split at h0 <;> rename_i c1
    · simp only [c1, if_true] at hK ⊢
      split
      · rfl
      · rfl
    · simp only [c1, if_false] at hK ⊢
      split at h0 <;> rename_i c2
      · cases h0
      · simp only [c2, if_false] at hK ⊢
        split at h0 <;> rename_i c3
        · simp only [c3, if_true] at hK ⊢
          split
          · rfl
          · rfl
        · simp only [c3, if_false] at hK ⊢
          split at h0 <;> rename_i c4
          · simp only [c4, if_true] at hK ⊢
            split at h0 <;> rename_i c5
            · cases h0
            · simp only [c5, if_false] at hK ⊢
              split at hK <;> rename_i c6
              · cases hK
              · simp only [c6, if_false]
                rfl
          · simp only [c4, if_false] at hK ⊢
            split at h0 <;> rename_i c7
            · simp only [c7, if_true] at hK ⊢
              split at h0 <;> rename_i c8
              · cases h0
              · simp only [c8, if_false] at hK
                cases hK
            · simp only [c7, if_false] at hK ⊢
              unfold Ou.then
              split
              · rfl
              · rfl
end Go.Proofs.Qxb6500293aGreatRR
