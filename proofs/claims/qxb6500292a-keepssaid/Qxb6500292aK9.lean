/-
  WHAT THE GHOST OWES (the whole answer), PLAIN.
-/
import Derived.Test.Qxb6500292aK5
namespace Go.Proofs.Qxb6500292a
open Ieee (double)
set_option linter.unusedVariables false
set_option linter.unusedSimpArgs false

/-- The error of a Get / Next, and of a Len. -/
theorem get_owed {st : List Tbl} {gs : Gs} (H : GRel st gs) (hG : GoodSt st) (k : V) (A : Int) :
    (getP st A k).1 = if (getP st A k).2 = 0 then (match findG gs A (oneV k) with
      | some i => (gs[i]?.getD (0, dE)).2.2
      | none => nilV) else nilV := by
  unfold getP
  by_cases hA : A < 0 ∨ (st.length : Int) ≤ A
  · simp only [if_pos hA]; rfl
  simp only [if_neg hA]
  by_cases hw : wfB k = false
  · simp only [if_pos hw]; rfl
  simp only [if_neg hw]
  obtain ⟨t, ht, hgd⟩ := st_at (st := st) (h := A.toNat) (by omega)
  obtain ⟨a, hinv⟩ := hG.at ht
  have hfi := find_idx H ht hinv.one (oneV k)
  rw [show ((A.toNat : Nat) : Int) = A by omega] at hfi
  rw [hgd]
  cases hf : findG gs A (oneV k) with
  | none =>
    rw [hf] at hfi
    simp only [] at hfi
    rw [hfi]
    rfl
  | some i =>
    rw [hf] at hfi
    obtain ⟨v, h1, h2⟩ := hfi
    rw [h2]
    have hr := rank_at h1
    rw [H.tab _ t ht] at hr
    show (t[rank gs A.toNat i]?.getD (nilV, nilV)).2 = (gs[i]?.getD (0, dE)).2.2
    rw [hr, h1]
    rfl
theorem next_owed {st : List Tbl} {gs : Gs} (H : GRel st gs) (hG : GoodSt st) (k : V) (A : Int) {j : Nat} (hL : LiveAt gs A (fromG (findG gs A (oneV k))) j) :
    ((nextP st A k).1, (nextP st A k).2.1) = if (nextP st A k).2.2 = 0 then (gs[j]?.getD (0, dE)).2 else (nilV, nilV) := by
  by_cases h0 : (nextP st A k).2.2 = 0
  · rw [if_pos h0]
    by_cases hA : A < 0 ∨ (st.length : Int) ≤ A
    · unfold nextP at h0; rw [if_pos hA] at h0; cases h0
    by_cases hw : wfB k = false
    · unfold nextP at h0; rw [if_neg hA, if_pos hw] at h0; cases h0
    obtain ⟨t, a, ht, hgd, hinv, hat⟩ := at_idx H hG hA (oneV k)
    by_cases hn : k.T ≠ 0 ∧ idx t (oneV k) = none
    · unfold nextP at h0; rw [if_neg hA, if_neg hw, hgd, if_pos hn] at h0; cases h0
    have e : ((A.toNat : Nat) : Int) = A := by omega
    have hk : k.T = 0 ∨ findG gs ((A.toNat : Nat) : Int) (oneV k) ≠ none := by
      rw [e]
      by_cases c : k.T = 0
      · exact .inl c
      · exact .inr fun h => hn ⟨c, hat.1 h⟩
    have := next_live H hG ht (by simpa using hw) hk (j := j) (by rw [e]; exact hL)
    rw [e] at this
    rw [this]
    cases hj : gs[j]? with
    | some s => rfl
    | none => rfl
  · rw [if_neg h0]
    unfold nextP at h0 ⊢
    by_cases hA : A < 0 ∨ (st.length : Int) ≤ A
    · rw [if_pos hA]
    rw [if_neg hA] at h0 ⊢
    by_cases hw : wfB k = false
    · rw [if_pos hw]
    rw [if_neg hw] at h0 ⊢
    by_cases hn : k.T ≠ 0 ∧ idx (st[A.toNat]?.getD []) (oneV k) = none
    · rw [if_pos hn]
    rw [if_neg hn] at h0 ⊢
    exfalso
    revert h0
    split
    · intro h; exact h rfl
    · intro h; exact h rfl
theorem len_owed {st : List Tbl} {gs : Gs} {A : Int} {n : Nat} (hb : borderP st gs A n) : (lenP st A).1 = if (lenP st A).2 = 0 then (n : Int) else -1 := by
  unfold lenP
  by_cases hA : A < 0 ∨ (st.length : Int) ≤ A
  · simp only [if_pos hA]; rfl
  simp only [if_neg hA]
  obtain ⟨t, ht, hgd⟩ := st_at (st := st) (h := A.toNat) (by omega)
  rw [hgd, ← hb.2 t (by omega) ht]
  rfl
end Go.Proofs.Qxb6500292a
