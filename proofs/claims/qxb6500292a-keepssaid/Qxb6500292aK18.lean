/-
  **Turn.**
-/
import Derived.Test.Qxb6500292aK15
namespace Go.Proofs.Qxb6500292a
open Go.RowKit
open Ieee (double)
set_option linter.unusedVariables false
set_option linter.unusedSimpArgs false

theorem gturn_any (own : Nat → Nat) (g : Nat) (st : List Tbl) (gs : Gs) (k v : V) (K A B C : Int) (S T : List UInt8) (w : World) (H : GhAt own w g st gs) (hG : GoodSt st) (hE : (doP st k v K A B S).E = 0) :
    Calls Try.prog 22 #[.pointer (some ⟨g, 0, none⟩), opV K A B C S T, valV (oneV k), valV v, .int .i64 (plc (findG gs A (oneV k)))] w fun e w' => e = .returned (.tuple #[]) ∧ GEnd own w g (doP st k v K A B S).st (turnG gs K A (oneV k) v (findG gs A (oneV k))) w' := by
  have hl := gs_len H.rel hG H.max
  by_cases h3 : K = 3
  · subst h3
    have e : (doP st k v 3 A B S).st = (makeP st).2.2 := rfl
    have e2 : (doP st k v 3 A B S).E = (makeP st).2.1 := rfl
    rw [e2] at hE
    rw [e]
    have hf : st.length < 12 := by
      unfold makeP at hE
      by_cases c : 12 ≤ st.length
      · rw [if_pos c] at hE; cases hE
      · omega
    have em : (makeP st).2.2 = st ++ [[]] := by unfold makeP; rw [if_neg (by omega)]
    rw [em]
    exact turn_make own g st gs A B C S T (oneV k) v _ w H hf
  by_cases h4 : K = 4
  · subst h4
    exact turn_reset own g st gs A B C S T (oneV k) v _ w H
  by_cases h7 : K = 7
  · subst h7
    have e : (doP st k v 7 A B S).st = (setP st A k v).1 := rfl
    have e2 : (doP st k v 7 A B S).E = (setP st A k v).2 := rfl
    rw [e]
    rw [e2] at hE
    unfold turnG
    rw [if_neg (by decide), if_pos rfl]
    unfold setP at hE ⊢
    by_cases hA : A < 0 ∨ (st.length : Int) ≤ A
    · rw [if_pos hA] at hE; cases hE
    rw [if_neg hA] at hE ⊢
    by_cases hw : wfB k = false ∨ wfB v = false
    · rw [if_pos hw] at hE; cases hE
    rw [if_neg hw] at hE ⊢
    by_cases h0 : k.T = 0
    · rw [if_pos h0] at hE; cases hE
    rw [if_neg h0] at hE ⊢
    by_cases hn : k.T = 2 ∧ 2047 * 2 ^ 52 < k.N % 2 ^ 63
    · rw [if_pos hn] at hE; cases hE
    rw [if_neg hn] at hE ⊢
    have hwv : wfB v = true := by cases hh : wfB v; exact absurd (.inr hh) hw; rfl
    obtain ⟨a, rfl⟩ : ∃ a : Nat, A = (a : Int) := ⟨A.toNat, by omega⟩
    rw [Int.toNat_natCast] at hE ⊢
    obtain ⟨t, ht, hgd⟩ := st_at (st := st) (h := a) (by omega)
    obtain ⟨ar, hinv⟩ := hG.at ht
    have hfi := find_idx H.rel ht hinv.one (oneV k)
    rw [hgd] at hE ⊢
    unfold setT at hE ⊢
    cases hf : findG gs (a : Int) (oneV k) with
    | some i =>
      rw [hf] at hfi
      obtain ⟨u, h1, h2⟩ := hfi
      rw [h2]
      show Calls _ _ _ _ fun e w' => _ ∧ GEnd own w g (st.set a (setVal t (rank gs a i) v)) (match gs[i]? with | some s => gs.set i (s.1, (s.2.1, v)) | none => gs) w'
      rw [h1]
      exact turn_found own g st gs a B C S T (oneV k) v i a (oneV k) u t w H ht h1
    | none =>
      rw [hf] at hfi
      simp only [] at hfi
      rw [hfi] at hE ⊢
      have hnil := nilT hwv
      by_cases hz : v.T = 0
      · rw [hnil, decide_eq_true hz]
        simp only [if_true]
        rw [if_pos hz]
        exact turn_same own g st gs 7 a B C S T (oneV k) v none w H (.inr ⟨rfl, rfl, hz⟩)
      · rw [hnil, decide_eq_false hz] at hE ⊢
        simp only [Bool.false_eq_true, if_false] at hE ⊢
        rw [if_neg hz]
        by_cases hfl : 32 ≤ t.length
        · rw [if_pos hfl] at hE; cases hE
        · rw [if_neg hfl]
          exact turn_new own g st gs a B C S T (oneV k) v t w H ht hl hinv.len hz
  · have e : (doP st k v K A B S).st = st := by
      unfold doP
      by_cases g1 : K = 1
      · rw [if_pos g1]
      by_cases g2 : K = 2
      · rw [if_neg g1, if_pos g2]
      rw [if_neg g1, if_neg g2, if_neg h3, if_neg h4]
      by_cases g5 : K = 5
      · rw [if_pos g5]
      by_cases g6 : K = 6
      · rw [if_neg g5, if_pos g6]
      rw [if_neg g5, if_neg g6, if_neg h7]
      by_cases g8 : K = 8
      · rw [if_pos g8]
      by_cases g9 : K = 9
      · rw [if_neg g8, if_pos g9]
      rw [if_neg g8, if_neg g9]
      by_cases g10 : K = 10
      · rw [if_pos g10]
      by_cases g11 : K = 11
      · rw [if_neg g10, if_pos g11]
      rw [if_neg g10, if_neg g11]
      by_cases g12 : K = 12
      · rw [if_pos g12]
      rw [if_neg g12]
    have e2 : turnG gs K A (oneV k) v (findG gs A (oneV k)) = gs := by unfold turnG; rw [if_neg h4, if_neg h7]
    rw [e, e2]
    exact turn_same own g st gs K A B C S T (oneV k) v _ w H (.inl ⟨h3, h4, h7⟩)
end Go.Proofs.Qxb6500292a
