/-
  WHAT THE GHOST OWES, PLAIN: it is what a step does.
-/
import Derived.Test.Qxb6500292aK1
namespace Go.Proofs.Qxb6500292a
open Ieee (double)
set_option linter.unusedVariables false
set_option linter.unusedSimpArgs false

theorem wfB_oneV (k : V) : wfB (oneV k) = wfB k := by
  unfold oneV
  by_cases c : k.T = 2 ∧ k.N = 9223372036854775808
  · rw [if_pos c]
    obtain ⟨T, N, S⟩ := k
    simp only at c
    obtain ⟨rfl, rfl⟩ := c
    unfold wfB
    simp
  · rw [if_neg c]
theorem oneV_T (k : V) : (oneV k).T = k.T := by
  unfold oneV
  split <;> rfl
theorem oneV_nan (k : V) : ((oneV k).T = 2 ∧ 2047 * 2 ^ 52 < (oneV k).N % 2 ^ 63) ↔ (k.T = 2 ∧ 2047 * 2 ^ 52 < k.N % 2 ^ 63) := by
  unfold oneV
  by_cases c : k.T = 2 ∧ k.N = 9223372036854775808
  · rw [if_pos c]
    obtain ⟨T, N, S⟩ := k
    simp only at c ⊢
    obtain ⟨rfl, rfl⟩ := c
    constructor
    · intro h; omega
    · intro h; omega
  · rw [if_neg c]
theorem oneV_key {k : V} (h : KeyOk k) : oneV k = k := by
  unfold oneV
  rw [if_neg (fun c => h.zero c.1 c.2)]
/-- Owes. -/
def owesP (st : List Tbl) (K A : Int) (k v : V) (at' : Option Nat) : Int :=
  if K = 3 ∧ 12 ≤ st.length then 8
  else if K < 6 ∨ 10 < K then 0
  else if A < 0 ∨ (st.length : Int) ≤ A then 3
  else if K = 10 then 0
  else if wfB k = false then 4
  else if K ≠ 7 ∧ K ≠ 6 ∧ k.T ≠ 0 ∧ at' = none then 7
  else if K ≠ 7 then 0
  else if wfB v = false then 4
  else if k.T = 0 then 5
  else if k.T = 2 ∧ 2047 * 2 ^ 52 < k.N % 2 ^ 63 then 6
  else if at' = none ∧ v.T ≠ 0 ∧ 32 ≤ (st[A.toNat]?.getD []).length then 8
  else 0
theorem at_idx {st : List Tbl} {gs : Gs} (H : GRel st gs) (hG : GoodSt st) {A : Int} (hA : ¬ (A < 0 ∨ (st.length : Int) ≤ A)) (k : V) : ∃ t a, st[A.toNat]? = some t ∧ st[A.toNat]?.getD [] = t ∧ Inv t a ∧ (findG gs A k = none ↔ idx t k = none) := by
  obtain ⟨t, ht, hgd⟩ := st_at (st := st) (h := A.toNat) (by omega)
  obtain ⟨a, hinv⟩ := hG.at ht
  refine ⟨t, a, ht, hgd, hinv, ?_⟩
  have := find_idx H ht hinv.one k
  rw [show ((A.toNat : Nat) : Int) = A by omega] at this
  cases hf : findG gs A k with
  | none => rw [hf] at this; simp [this]
  | some i =>
    rw [hf] at this
    obtain ⟨v, h1, h2⟩ := this
    simp [h2]
theorem owes_eq {st : List Tbl} {gs : Gs} (H : GRel st gs) (hG : GoodSt st) (k v : V) (K A B : Int) (S : List UInt8) : owesP st K A (oneV k) v (findG gs A (oneV k)) = (doP st k v K A B S).E := by
  unfold owesP doP
  rw [wfB_oneV, oneV_T]
  by_cases h1 : K = 1
  · subst h1; simp
  by_cases h2 : K = 2
  · subst h2; simp
  by_cases h3 : K = 3
  · subst h3
    unfold makeP
    by_cases c : 12 ≤ st.length <;> simp [c]
  by_cases h4 : K = 4
  · subst h4; simp
  by_cases h5 : K = 5
  · subst h5; simp
  by_cases hb : K < 6 ∨ 10 < K
  · rw [if_neg (fun h => h3 h.1), if_pos hb, if_neg h1, if_neg h2, if_neg h3, if_neg h4, if_neg h5, if_neg (by omega), if_neg (by omega), if_neg (by omega), if_neg (by omega), if_neg (by omega)]
    split
    · rfl
    · split <;> rfl
  rw [if_neg (fun h => h3 h.1), if_neg hb, if_neg h1, if_neg h2, if_neg h3, if_neg h4, if_neg h5]
  by_cases hA : A < 0 ∨ (st.length : Int) ≤ A
  · rw [if_pos hA]
    unfold getP setP nextP lenP
    simp only [if_pos hA]
    split
    · rfl
    split
    · rfl
    split
    · rfl
    split
    · rfl
    split
    · rfl
    · omega
  rw [if_neg hA]
  obtain ⟨t, a, ht, hgd, hinv, hat⟩ := at_idx H hG hA (oneV k)
  by_cases h10 : K = 10
  · subst h10
    unfold lenP
    simp [hA]
  rw [if_neg h10]
  by_cases hw : wfB k = false
  · rw [if_pos hw]
    unfold getP setP nextP
    simp only [if_neg hA, if_pos hw, if_pos (Or.inl hw : wfB k = false ∨ wfB v = false)]
    split
    · rfl
    split
    · rfl
    split
    · rfl
    split
    · rfl
    · omega
  rw [if_neg hw]
  by_cases h6 : K = 6
  · subst h6
    unfold getP
    rw [if_neg hA, if_neg hw]
    simp
    split <;> rfl
  rw [if_neg h6]
  by_cases h7 : K = 7
  · subst h7
    unfold setP
    rw [if_neg hA]
    by_cases hv : wfB v = false
    · simp [hv, hw]
    · have hw' : wfB k = true := by simpa using hw
      have hv' : wfB v = true := by simpa using hv
      simp only [ne_eq, not_true_eq_false, false_and, if_false, hv', hw', Bool.true_eq_false, or_self, reduceCtorEq]
      by_cases h0 : k.T = 0
      · simp [h0]
      simp only [h0, if_false]
      have hn := oneV_nan k
      rw [oneV_T] at hn
      by_cases hnan : k.T = 2 ∧ 2047 * 2 ^ 52 < k.N % 2 ^ 63
      · rw [if_pos (hn.2 hnan), if_pos hnan]; simp
      · rw [if_neg (fun h => hnan (hn.1 h)), if_neg hnan]
        simp only [if_true]
        unfold setT
        rw [hgd]
        cases hi : idx t (oneV k) with
        | some p =>
          have : ¬ findG gs A (oneV k) = none := fun h => by rw [hat.1 h] at hi; cases hi
          simp [this]
        | none =>
          rw [hat.2 hi]
          have hnil := nilT hv'
          by_cases hz : v.T = 0
          · simp [hnil, hz]
          · by_cases hf : 32 ≤ t.length
            · simp [hnil, hz, hf]
            · simp [hnil, hz, hf]
  rw [if_neg h7]
  have h89 : K = 8 ∨ K = 9 := by omega
  have hE : (nextP st A k).2.2 = if k.T ≠ 0 ∧ idx t (oneV k) = none then 7 else 0 := by
    unfold nextP
    rw [if_neg hA, if_neg hw, hgd]
    split
    · rfl
    · split <;> rfl
  have hc : (K ≠ 7 ∧ K ≠ 6 ∧ k.T ≠ 0 ∧ findG gs A (oneV k) = none) ↔ (k.T ≠ 0 ∧ idx t (oneV k) = none) := by
    constructor
    · rintro ⟨_, _, a, b⟩; exact ⟨a, hat.1 b⟩
    · rintro ⟨a, b⟩; exact ⟨h7, h6, a, hat.2 b⟩
  have e1 : (if K = 8 then (⟨(nextP st A k).2.2, 0, pairV (nextP st A k).1 (nextP st A k).2.1, st, k, v⟩ : Out) else if K = 9 then ⟨(nextP st A k).2.2, 0, pairV (nextP st A k).1 (nextP st A k).2.1, st, (nextP st A k).1, v⟩ else if K = 10 then ⟨(lenP st A).2, (lenP st A).1, [], st, k, v⟩ else if K = 11 then ⟨0, 0, showT st, st, k, v⟩ else if K = 12 then ⟨0, 1, [], st, k, v⟩ else ⟨0, 0, [], st, k, v⟩).E = (nextP st A k).2.2 := by
    rcases h89 with rfl | rfl <;> simp
  rw [e1, hE]
  by_cases c : k.T ≠ 0 ∧ idx t (oneV k) = none
  · rw [if_pos (hc.2 c), if_pos c]
  · rw [if_neg (fun h => c (hc.1 h)), if_neg c, if_pos h7]
end Go.Proofs.Qxb6500292a
