/-
  WHAT Held HOLDS, PLAIN.
-/
import Derived.Test.Qxb6500292aK9
namespace Go.Proofs.Qxb6500292a
open Ieee (double)
set_option linter.unusedVariables false
set_option linter.unusedSimpArgs false

/-- A slot's key is found at that slot. -/
theorem findG_at {st : List Tbl} {gs : Gs} (H : GRel st gs) (hG : GoodSt st) {h p : Nat} {k v : V} {t : Tbl} (ht : st[h]? = some t) (hs : gs[p]? = some (h, (k, v))) : findG gs h k = some p := by
  obtain ⟨a, hinv⟩ := hG.at ht
  have hf := find_idx H ht hinv.one k
  have hr := rank_at hs
  rw [H.tab h t ht] at hr
  have hi := idx_of hinv.one hr
  cases hc : findG gs h k with
  | none =>
    rw [hc] at hf
    rw [hf] at hi
    cases hi
  | some q =>
    rw [hc] at hf
    obtain ⟨u, h1, h2⟩ := hf
    rw [h2] at hi
    injection hi with hi
    have s1 := rank_succ h1 h
    have s2 := rank_succ hs h
    rw [if_pos rfl] at s1 s2
    rcases Nat.lt_trichotomy q p with c | c | c
    · have := rank_mono (gs := gs) (h := h) (i := q + 1) (j := p) (by omega)
      omega
    · rw [c]
    · have := rank_mono (gs := gs) (h := h) (i := p + 1) (j := q) (by omega)
      omega
theorem findG_nil {st : List Tbl} {gs : Gs} (H : GRel st gs) (hG : GoodSt st) (h : Int) : findG gs h nilV = none := by
  refine findG_no ?_
  intro q s' _ hq hc
  have := (vals_ok H hG s' (List.mem_of_getElem? hq)).1.nil
  rw [hc.2] at this
  exact this rfl
/-- The key at which Held's walk stands ahead of slot i. -/
def KeyAt (gs : Gs) (h i : Nat) (k : V) : Prop :=
  (k = nilV ∧ ∀ m s, m < i → gs[m]? = some s → liveS h s = false) ∨ ∃ p v, p < i ∧ gs[p]? = some (h, (k, v)) ∧ ∀ m s, p < m → m < i → gs[m]? = some s → liveS h s = false
theorem KeyAt.ok {st : List Tbl} {gs : Gs} (H : GRel st gs) (hG : GoodSt st) {h i : Nat} {k : V} (hk : KeyAt gs h i k) : wfB k = true ∧ k.Ok ∧ oneV k = k := by
  rcases hk with ⟨rfl, _⟩ | ⟨p, v, _, hp, _⟩
  · exact ⟨by decide, wf_ok (by decide) (by decide), rfl⟩
  · have := (vals_ok H hG _ (List.mem_of_getElem? hp)).1
    exact ⟨this.wf, wf_ok this.wf this.N, oneV_key this⟩
theorem key_next {st : List Tbl} {gs : Gs} (H : GRel st gs) (hG : GoodSt st) {h i : Nat} {k : V} {t : Tbl} (ht : st[h]? = some t) (hk : KeyAt gs h i k) (hi : i ≤ gs.length) (hl : ∀ s, gs[i]? = some s → liveS h s = true) :
    nextP st h k = match gs[i]? with
    | some s => (s.2.1, s.2.2, 0)
    | none => (nilV, nilV, 0) := by
  obtain ⟨w1, _, w3⟩ := hk.ok H hG
  rcases hk with ⟨rfl, hd⟩ | ⟨p, v, hp, hs, hd⟩
  · refine next_live H hG ht w1 (.inl rfl) ?_
    rw [w3, findG_nil H hG]
    exact ⟨Nat.zero_le _, hi, fun m s _ h2 h3 => hd m s h2 h3, hl⟩
  · have hf := findG_at H hG ht hs
    refine next_live H hG ht w1 (.inr (by rw [w3, hf]; simp)) ?_
    rw [w3, hf]
    exact ⟨by show p + 1 ≤ i; omega, hi, fun m s h1 h2 h3 => hd m s (by have : p + 1 ≤ m := h1; omega) h2 h3, hl⟩
theorem KeyAt.dead {gs : Gs} {h i : Nat} {k : V} (hk : KeyAt gs h i k) {s : Nat × (V × V)} (hs : gs[i]? = some s) (hd : liveS h s = false) : KeyAt gs h (i + 1) k := by
  have step : ∀ (P : Nat → Prop), (∀ m s, P m → m < i → gs[m]? = some s → liveS h s = false) → ∀ m s, P m → m < i + 1 → gs[m]? = some s → liveS h s = false := by
    intro P h0 m s' h1 h2 h3
    by_cases c : m = i
    · subst c
      rw [hs] at h3
      cases h3
      exact hd
    · exact h0 m s' h1 (by omega) h3
  rcases hk with ⟨rfl, h0⟩ | ⟨p, v, hp, hps, h0⟩
  · exact .inl ⟨rfl, fun m s h1 h2 => step (fun _ => True) (fun m s _ h1 h2 => h0 m s h1 h2) m s trivial h1 h2⟩
  · exact .inr ⟨p, v, by omega, hps, fun m s h1 h2 h3 => step (fun m => p < m) h0 m s h1 h2 h3⟩
theorem KeyAt.live {gs : Gs} {h i : Nat} {k v : V} (hs : gs[i]? = some (h, (k, v))) : KeyAt gs h (i + 1) k := .inr ⟨i, v, by omega, hs, fun m s h1 h2 => by omega⟩
theorem key_get {st : List Tbl} {gs : Gs} (H : GRel st gs) (hG : GoodSt st) {h p : Nat} {k v : V} {t : Tbl} (ht : st[h]? = some t) (hs : gs[p]? = some (h, (k, v))) : getP st h k = (v, 0) := by
  have hh : h < st.length := (List.getElem?_eq_some_iff.1 ht).1
  obtain ⟨a, hinv⟩ := hG.at ht
  have hk := (vals_ok H hG _ (List.mem_of_getElem? hs)).1
  have hr := rank_at hs
  rw [H.tab h t ht] at hr
  have hi := idx_of hinv.one hr
  unfold getP
  rw [if_neg (by omega), if_neg (by rw [hk.wf]; simp), oneV_key hk, Int.toNat_natCast, ht]
  show (match idx t k with | none => _ | some p => _) = _
  rw [hi]
  show ((t[rank gs h p]?.getD (nilV, nilV)).2, (0 : Int)) = _
  rw [hr]
  rfl
theorem brdF_live (t : Tbl) : ∀ (k n : Nat), (∀ m, n ≤ m → m < brdF t k n → liveB t m = true) ∧ (liveB t (brdF t k n) = false ∨ brdF t k n = n + k) ∧ n ≤ brdF t k n
  | 0, n => ⟨fun m h1 h2 => by have : m < n := h2; omega, .inr rfl, Nat.le_refl _⟩
  | k + 1, n => by
    rw [show brdF t (k + 1) n = (if liveB t n then brdF t k (n + 1) else n) from rfl]
    cases hl : liveB t n
    · simp only [Bool.false_eq_true, if_false]
      exact ⟨fun m h1 h2 => by omega, .inl hl, Nat.le_refl _⟩
    · simp only [if_true]
      obtain ⟨h1, h2, h3⟩ := brdF_live t k (n + 1)
      refine ⟨fun m a b => ?_, ?_, by omega⟩
      · by_cases c : m = n
        · subst c; exact hl
        · exact h1 m (by omega) b
      · rcases h2 with h2 | h2
        · exact .inl h2
        · exact .inr (by omega)
theorem brd_dead {t : Tbl} {a : List Nat} (hi : Inv t a) : liveB t (brd t) = false ∧ brd t ≤ 32 := by
  obtain ⟨h1, h2, _⟩ := brdF_live t 33 0
  have hb : brdF t 33 0 = brd t := rfl
  rw [hb] at h1 h2
  have hlt : ¬ 33 ≤ brd t := fun h => live_bound hi (fun m hm => h1 m (Nat.zero_le _) (by omega))
  refine ⟨?_, by omega⟩
  rcases h2 with h2 | h2
  · exact h2
  · omega
theorem key_brd {st : List Tbl} (hG : GoodSt st) {h : Nat} {t : Tbl} (ht : st[h]? = some t) : lenP st h = ((brd t : Int), 0) ∧ brd t ≤ 32 ∧ ∃ N S, (getP st h (numKey (brd t + 1))).1 = ⟨0, N, S⟩ := by
  have hh : h < st.length := (List.getElem?_eq_some_iff.1 ht).1
  obtain ⟨a, hinv⟩ := hG.at ht
  obtain ⟨hd, hle⟩ := brd_dead hinv
  refine ⟨?_, hle, ?_⟩
  · unfold lenP
    rw [if_neg (by omega), Int.toNat_natCast, ht]
    rfl
  · have hz : (getP st h (numKey (brd t + 1))).1.T = 0 := by
      unfold getP
      rw [if_neg (by omega)]
      split
      · rfl
      rename_i hw
      rw [Int.toNat_natCast, ht]
      show ((match idx t (oneV (numKey (brd t + 1))) with | none => (nilV, (0 : Int)) | some p => ((t[p]?.getD (nilV, nilV)).2, 0)).1).T = 0
      unfold liveB at hd
      cases hi : idx t (oneV (numKey (brd t + 1))) with
      | none => rfl
      | some p =>
        obtain ⟨e, he, hek⟩ := idx_some hi
        have hke := hinv.keys e (List.mem_of_getElem? he)
        have hve := hinv.vals e (List.mem_of_getElem? he)
        have hone : oneV (numKey (brd t + 1)) = numKey (brd t + 1) := by
          unfold oneV
          split
          · rename_i c
            exfalso
            have h2 : fl (brd t + 1) = 9223372036854775808 := c.2
            have h3 := Fl.nearest_false_le (brd t + 1) 0
            have h4 : fl (brd t + 1) = double.nearest false (brd t + 1) 0 := rfl
            omega
          · rfl
        rw [hone] at hi
        rw [hi] at hd
        show ((t[p]?.getD (nilV, nilV)).2).T = 0
        have hd : (!isNilB (t[p]?.getD (nilV, nilV)).2) = false := hd
        rw [he] at hd ⊢
        simp only [Option.getD_some, Bool.not_eq_false'] at hd ⊢
        rw [nilT hve.wf] at hd
        exact of_decide_eq_true hd
    exact ⟨_, _, by rw [← hz]⟩
end Go.Proofs.Qxb6500292a
