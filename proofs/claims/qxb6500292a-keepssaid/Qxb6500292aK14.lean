import Derived.Test.Qxb6500292aK13
namespace Go.Proofs.Qxb6500292a
open Go.RowKit
open Ieee (double)
set_option linter.unusedVariables false
set_option linter.unusedSimpArgs false

/-- **Owed.** -/
theorem owed_any (nb mb : Value) (g : Nat) (st : List Tbl) (gs : Gs) (ad : Option Addr) (cp : Nat) (k v : V) (K A B C : Int) (S T : List UInt8) (w : World) (H : GRow w g st gs ad cp) (hrel : GRel st gs) (hG : GoodSt st) (hl : gs.length ≤ 384) :
    Calls Try.prog 20 #[.agg #[nb, mb], .pointer (some ⟨g, 0, none⟩), opV K A B C S T, .int .i64 (doP st k v K A B S).E, .int .i64 (plc (findG gs A (oneV k)))] w fun e w' => e = .returned (ansV (doP st k v K A B S).E (doP st k v K A B S).N (if K = 11 then [] else (doP st k v K A B S).Z)) ∧ Below w.heap.size w w' := by
  by_cases h6 : K = 6
  · subst h6
    have e1 : (doP st k v 6 A B S).E = (getP st A k).2 := rfl
    have e2 : (doP st k v 6 A B S).N = 0 := rfl
    have e3 : (doP st k v 6 A B S).Z = showV (getP st A k).1 := rfl
    rw [e1, e2, e3, if_neg (by decide)]
    have hgo := get_owed hrel hG k A
    refine owed_get nb mb g st gs ad cp A B C S T _ _ _ w H (getP_ok hG A k) ?_
    by_cases hE : (getP st A k).2 = 0
    · rw [if_pos hE] at hgo
      cases hf : findG gs A (oneV k) with
      | none => rw [hf] at hgo; exact .inr (.inl ⟨hE, rfl, hgo⟩)
      | some i =>
        rw [hf] at hgo
        obtain ⟨n, u, h1, _⟩ := findG_some hf
        refine .inr (.inr ⟨hE, i, _, rfl, h1, ?_⟩)
        rw [hgo]
        show (gs[i]?.getD (0, dE)).2.2 = u
        rw [h1]
        rfl
    · rw [if_neg hE] at hgo
      exact .inl ⟨hE, hgo⟩
  by_cases h89 : K = 8 ∨ K = 9
  · have e1 : (doP st k v K A B S).E = (nextP st A k).2.2 := by rcases h89 with rfl | rfl <;> rfl
    have e2 : (doP st k v K A B S).N = 0 := by rcases h89 with rfl | rfl <;> rfl
    have e3 : (doP st k v K A B S).Z = pairV (nextP st A k).1 (nextP st A k).2.1 := by rcases h89 with rfl | rfl <;> rfl
    rw [e1, e2, e3, if_neg (by omega)]
    refine (owed_next nb mb g st gs ad cp K A B C S T _ _ w H hl h89 (fun i hi => by obtain ⟨_, _, _, _, h⟩ := findG_some hi; exact h) (vals_ok hrel hG)).mono ?_
    rintro e w' ⟨⟨j, hL, rfl⟩, hb⟩
    refine ⟨?_, hb⟩
    have hno := next_owed hrel hG k A hL
    congr 2
    by_cases hE : (nextP st A k).2.2 = 0
    · rw [if_pos hE] at hno ⊢
      rw [← hno]
    · rw [if_neg hE] at hno ⊢
      injection hno with n1 n2
      rw [n1, n2]
  by_cases h10 : K = 10
  · subst h10
    have e1 : (doP st k v 10 A B S).E = (lenP st A).2 := rfl
    have e2 : (doP st k v 10 A B S).N = (lenP st A).1 := rfl
    have e3 : (doP st k v 10 A B S).Z = [] := rfl
    rw [e1, e2, e3, if_neg (by decide)]
    refine (owed_len nb mb g st gs ad cp A B C S T _ _ w H hrel hG hl).mono ?_
    rintro e w' ⟨⟨n, hp, rfl⟩, hb⟩
    rw [← len_owed hp]
    exact ⟨rfl, hb⟩
  refine (owed_rest nb mb g st gs ad cp K A B C S T _ _ w H (by omega)).mono ?_
  rintro e w' ⟨rfl, hb⟩
  refine ⟨?_, hb⟩
  congr 2
  · unfold doP
    by_cases h1 : K = 1
    · subst h1; rfl
    by_cases h2 : K = 2
    · subst h2; rfl
    by_cases h3 : K = 3
    · subst h3
      simp only [if_pos, if_neg, h1, h2, if_true, if_false]
      unfold makeP
      split <;> rfl
    by_cases h4 : K = 4
    · subst h4; rfl
    by_cases h5 : K = 5
    · subst h5; rfl
    by_cases h11 : K = 11
    · subst h11; rfl
    by_cases h12 : K = 12
    · subst h12; rfl
    by_cases h7 : K = 7
    · subst h7; rfl
    have n8 : ¬ K = 8 := by omega
    have n9 : ¬ K = 9 := by omega
    simp only [h1, h2, h3, h4, h5, h6, h7, n8, n9, h10, h11, h12, if_false]
  · unfold doP
    by_cases h11 : K = 11
    · rw [if_pos h11]
    rw [if_neg h11]
    by_cases h1 : K = 1
    · subst h1; rfl
    by_cases h2 : K = 2
    · subst h2; rfl
    by_cases h3 : K = 3
    · subst h3; rfl
    by_cases h4 : K = 4
    · subst h4; rfl
    by_cases h5 : K = 5
    · subst h5; rfl
    by_cases h12 : K = 12
    · subst h12; rfl
    by_cases h7 : K = 7
    · subst h7; rfl
    have n8 : ¬ K = 8 := by omega
    have n9 : ¬ K = 9 := by omega
    simp only [h1, h2, h3, h4, h5, h6, h7, n8, n9, h10, h11, h12, if_false]
end Go.Proofs.Qxb6500292a
