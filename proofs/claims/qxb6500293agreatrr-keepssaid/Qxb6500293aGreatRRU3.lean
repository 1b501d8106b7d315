import Derived.Test.Qxb6500293aGreatRRU1
namespace Go.Proofs.Qxb6500293aGreatRR
open Go.RowKit
open Ieee (double)
set_option linter.unusedVariables false
set_option linter.unusedSimpArgs false

theorem st_at {st : List Tbl} {h : Nat} (hh : h < st.length) : ∃ t, st[h]? = some t ∧ st[h]?.getD [] = t := ⟨st[h], List.getElem?_eq_getElem hh, by rw [List.getElem?_eq_getElem hh]; rfl⟩
theorem nilT {v : V} (h : wfB v = true) : isNilB v = decide (v.T = 0) := by
  unfold isNilB
  by_cases c : v.T = 0
  · rw [decide_eq_true c]
    obtain ⟨T, N, S⟩ := v
    simp only at c
    subst c
    have hS := (wf_other h (show (0 : Int) ≠ 3 by decide)).1
    unfold wfB at h
    simp only at hS
    subst hS
    simp at h
    apply (eqV_iff _ _).2
    rw [h]
    rfl
  · rw [decide_eq_false c]
    apply (eqV_no _ _).2
    rintro rfl
    exact c rfl
theorem nodup_sub_len : ∀ (l1 l2 : List V), l1.Nodup → (∀ x ∈ l1, x ∈ l2) → l1.length ≤ l2.length
  | [], _, _, _ => Nat.zero_le _
  | a :: l1, l2, hn, hs => by
    have ha := hs a (by simp)
    letI : DecidableEq V := decV
    have h1 := nodup_sub_len l1 (l2.erase a) (List.nodup_cons.1 hn).2 (fun x hx => (List.mem_erase_of_ne (by rintro rfl; exact (List.nodup_cons.1 hn).1 hx)).2 (hs x (by simp [hx])))
    rw [List.length_erase_of_mem ha] at h1
    have h2 : 0 < l2.length := List.length_pos_of_mem ha
    rw [List.length_cons]
    omega
theorem live_bound {t : Tbl} {a : List Nat} (hi : Inv t a) (h : ∀ m, m < 33 → liveB t m = true) : False := by
  have h1 := nodup_sub_len ((List.range 33).map fun m => numKey (m + 1)) (t.map (·.1)) ?_ ?_
  · have := hi.len
    simp at h1
    omega
  · rw [List.nodup_iff_pairwise_ne, List.pairwise_map]
    refine List.Pairwise.imp_of_mem ?_ (List.nodup_iff_pairwise_ne.1 List.nodup_range)
    intro i j hi hj hne e
    rw [List.mem_range] at hi hj
    have := fl_inj (i := i + 1) (j := j + 1) (by omega) (by omega) (congrArg V.N e)
    omega
  · intro x hx
    rw [List.mem_map] at hx
    obtain ⟨m, hm, rfl⟩ := hx
    rw [List.mem_range] at hm
    have hl := h m hm
    unfold liveB at hl
    cases hp : idx t (numKey (m + 1)) with
    | none => rw [hp] at hl; cases hl
    | some p =>
      obtain ⟨e, h1, h2⟩ := idx_some hp
      exact List.mem_map.2 ⟨e, List.mem_of_getElem? h1, h2⟩
end Go.Proofs.Qxb6500293aGreatRR
