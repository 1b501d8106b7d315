/-
  THE GHOST's NEXT LIVE SLOT, BORDER AND TURN, PLAIN.
-/
import Derived.Test.Qxb6500292aK2
namespace Go.Proofs.Qxb6500292a
open Ieee (double)
set_option linter.unusedVariables false
set_option linter.unusedSimpArgs false

/-- j is the first live slot of table h at or behind i, or the end. -/
structure LiveAt (gs : Gs) (h : Int) (i j : Nat) : Prop where
  ge : i ≤ j
  le : j ≤ gs.length
  dead : ∀ m s, i ≤ m → m < j → gs[m]? = some s → liveS h s = false
  live : ∀ s, gs[j]? = some s → liveS h s = true
theorem rank_mono {gs : Gs} {h i j : Nat} (hij : i ≤ j) : rank gs h i ≤ rank gs h j := by
  unfold rank
  have : gs.take j = gs.take i ++ (gs.drop i).take (j - i) := by
    rw [← List.take_add, show i + (j - i) = j by omega]
  rw [this, ofT_append, List.length_append]
  omega
theorem vals_ok {st : List Tbl} {gs : Gs} (H : GRel st gs) (hG : GoodSt st) : ∀ s ∈ gs, KeyOk s.2.1 ∧ ValOk s.2.2 := by
  intro s hs
  have hl := H.low s hs
  obtain ⟨t, ht, _⟩ := st_at hl
  obtain ⟨a, hinv⟩ := hG.at ht
  have hm : s.2 ∈ t := by rw [← H.tab s.1 t ht]; exact mem_ofT.2 hs
  exact ⟨hinv.keys _ hm, hinv.vals _ hm⟩
/-- The place from which Next's walk goes. -/
def fromG (at' : Option Nat) : Nat := match at' with
  | some i => i + 1
  | none => 0
theorem next_live {st : List Tbl} {gs : Gs} (H : GRel st gs) (hG : GoodSt st) {h : Nat} {t : Tbl} (ht : st[h]? = some t) {k : V} (hw : wfB k = true) (hk : k.T = 0 ∨ findG gs h (oneV k) ≠ none) {j : Nat} (hL : LiveAt gs h (fromG (findG gs h (oneV k))) j) :
    nextP st h k = match gs[j]? with
    | some s => (s.2.1, s.2.2, 0)
    | none => (nilV, nilV, 0) := by
  obtain ⟨a, hinv⟩ := hG.at ht
  have hh : h < st.length := (List.getElem?_eq_some_iff.1 ht).1
  have hfi := find_idx H ht hinv.one (oneV k)
  have et := H.tab h t ht
  have hv : ∀ s ∈ gs, wfB s.2.2 = true := fun s hs => (vals_ok H hG s hs).2.wf
  have hT0 : k.T = 0 → findG gs h (oneV k) = none := by
    intro h0
    refine findG_no ?_
    intro q s' _ hq hc
    have := (vals_ok H hG s' (List.mem_of_getElem? hq)).1.nil
    rw [hc.2, oneV_T] at this
    exact this h0
  obtain ⟨fr, hfr, hfr2⟩ : ∃ fr, fr = rank gs h (fromG (findG gs h (oneV k))) ∧ (if k.T = 0 then 0 else ((idx t (oneV k)).getD 0 + 1)) = fr := by
    refine ⟨_, rfl, ?_⟩
    by_cases h0 : k.T = 0
    · rw [if_pos h0, hT0 h0]
      rfl
    · rw [if_neg h0]
      cases hf : findG gs h (oneV k) with
      | none => exact absurd hf (hk.resolve_left h0)
      | some i =>
        rw [hf] at hfi
        obtain ⟨v, h1, h2⟩ := hfi
        show _ = rank gs h (i + 1)
        rw [h2, rank_succ h1, if_pos rfl]
        rfl
  have hno : ¬ (k.T ≠ 0 ∧ idx t (oneV k) = none) := by
    rintro ⟨h0, hi⟩
    cases hf : findG gs h (oneV k) with
    | none => exact absurd hf (hk.resolve_left h0)
    | some i =>
      rw [hf] at hfi
      obtain ⟨v, h1, h2⟩ := hfi
      rw [hi] at h2
      cases h2
  have hit := items_rank (gs := gs) (h := h) hv (i := fromG (findG gs h (oneV k))) j hL.ge hL.le hL.dead
  rw [et, ← hfr] at hit
  unfold nextP
  rw [if_neg (by omega), if_neg (by rw [hw]; simp), Int.toNat_natCast, ht]
  show (if k.T ≠ 0 ∧ idx t (oneV k) = none then _ else _) = _
  rw [if_neg hno]
  show (match (items t (if k.T = 0 then 0 else (idx t (oneV k)).getD 0 + 1) false t.length).head? with | some p => _ | none => _) = _
  rw [hfr2]
  cases hj : gs[j]? with
  | some s =>
    have hl := hL.live s hj
    unfold liveS at hl
    simp at hl
    obtain ⟨sh, se⟩ := s
    have hsh : sh = h := by have := hl.1; simp only at this; omega
    subst hsh
    have hr := rank_at hj
    rw [et] at hr
    have hlt := (List.getElem?_eq_some_iff.1 hr).1
    have hnil : isNilB se.2 = false := by
      rw [nilT (hv _ (List.mem_of_getElem? hj))]
      exact decide_eq_false hl.2
    have h1 := items_live (by rw [hfr]; exact rank_mono hL.ge) hit hr hnil
    rw [items_head h1 t.length (by omega)]
    show ((t[rank gs sh j]?.getD dE).1, (t[rank gs sh j]?.getD dE).2, 0) = _
    rw [hr]
    rfl
  | none =>
    have hjl : j = gs.length := by
      have := List.getElem?_eq_none_iff.1 hj
      have := hL.le
      omega
    subst hjl
    rw [rank_all, et] at hit
    rw [hit]
    rfl
/-- What an OK step does to the ghost. -/
def turnG (gs : Gs) (K A : Int) (k v : V) (at' : Option Nat) : Gs :=
  if K = 4 then []
  else if K = 7 then match at' with
    | some i => (match gs[i]? with
      | some s => gs.set i (s.1, (s.2.1, v))
      | none => gs)
    | none => if v.T = 0 then gs else gs ++ [(A.toNat, (k, v))]
  else gs
theorem ofT_set_same {gs : Gs} {i h : Nat} {e e' : V × V} (hs : gs[i]? = some (h, e)) : ofT (gs.set i (h, e')) h = (ofT gs h).set (rank gs h i) e' := by
  obtain ⟨hi, _⟩ := List.getElem?_eq_some_iff.1 hs
  have e1 : gs.set i (h, e') = gs.take i ++ ([(h, e')] ++ gs.drop (i + 1)) := by
    rw [List.set_eq_take_append_cons_drop, if_pos hi]
    rfl
  have e2 := gs_split hs
  rw [e1, ofT_append, ofT_append, ofT_one, if_pos rfl]
  conv => rhs; arg 1; rw [e2, ofT_append, ofT_append, ofT_one, if_pos rfl]
  unfold rank
  rw [List.set_append_right _ _ (Nat.le_refl _), Nat.sub_self]
  rfl
theorem ofT_set_other {gs : Gs} {i h h' : Nat} {e e' : V × V} (hs : gs[i]? = some (h, e)) (hn : h ≠ h') : ofT (gs.set i (h, e')) h' = ofT gs h' := by
  obtain ⟨hi, _⟩ := List.getElem?_eq_some_iff.1 hs
  have e1 : gs.set i (h, e') = gs.take i ++ ([(h, e')] ++ gs.drop (i + 1)) := by
    rw [List.set_eq_take_append_cons_drop, if_pos hi]
    rfl
  conv => rhs; rw [gs_split hs]
  rw [e1, ofT_append, ofT_append, ofT_append, ofT_append, ofT_one, ofT_one, if_neg hn, if_neg hn]
theorem rel_nil : GRel [] [] := ⟨by simp, by simp⟩
theorem rel_make {st : List Tbl} {gs : Gs} (H : GRel st gs) : GRel (st ++ [[]]) gs := by
  refine ⟨fun s hs => by have := H.low s hs; simp; omega, ?_⟩
  intro h t ht
  rcases Nat.lt_or_ge h st.length with c | c
  · rw [List.getElem?_append_left c] at ht
    exact H.tab h t ht
  · have : h = st.length := by have := (List.getElem?_eq_some_iff.1 ht).1; simp at this; omega
    subst this
    rw [List.getElem?_append_right (Nat.le_refl _), Nat.sub_self] at ht
    simp at ht
    subst ht
    unfold ofT
    rw [List.map_eq_nil_iff, List.filter_eq_nil_iff]
    intro s hs
    have := H.low s hs
    simp
    omega
theorem rel_turn {st : List Tbl} {gs : Gs} (H : GRel st gs) {i h : Nat} {t : Tbl} {k u v : V} (ht : st[h]? = some t) (hs : gs[i]? = some (h, (k, u))) : GRel (st.set h (setVal t (rank gs h i) v)) (gs.set i (h, (k, v))) := by
  have hh : h < st.length := (List.getElem?_eq_some_iff.1 ht).1
  have hr := rank_at hs
  rw [H.tab h t ht] at hr
  refine ⟨?_, ?_⟩
  · intro s hm
    rw [List.length_set]
    rcases List.mem_or_eq_of_mem_set hm with h1 | h1
    · exact H.low s h1
    · rw [h1]; exact hh
  · intro h' t' ht'
    rw [List.getElem?_set] at ht'
    by_cases c : h = h'
    · subst c
      rw [if_pos rfl, if_pos hh] at ht'
      cases ht'
      rw [ofT_set_same hs, H.tab h t ht]
      unfold setVal
      rw [hr]
    · rw [if_neg c] at ht'
      rw [ofT_set_other hs c]
      exact H.tab h' t' ht'
theorem rel_grow {st : List Tbl} {gs : Gs} (H : GRel st gs) {h : Nat} {t : Tbl} {e : V × V} (ht : st[h]? = some t) : GRel (st.set h (t ++ [e])) (gs ++ [(h, e)]) := by
  have hh : h < st.length := (List.getElem?_eq_some_iff.1 ht).1
  refine ⟨?_, ?_⟩
  · intro s hm
    rw [List.length_set]
    rcases List.mem_append.1 hm with h1 | h1
    · exact H.low s h1
    · rw [List.mem_singleton.1 h1]; exact hh
  · intro h' t' ht'
    rw [List.getElem?_set] at ht'
    rw [ofT_append, ofT_one]
    by_cases c : h = h'
    · subst c
      rw [if_pos rfl, if_pos hh] at ht'
      cases ht'
      rw [if_pos rfl, H.tab h t ht]
    · rw [if_neg c] at ht'
      rw [if_neg c, List.append_nil]
      exact H.tab h' t' ht'
theorem turn_rel {st : List Tbl} {gs : Gs} (H : GRel st gs) (hG : GoodSt st) (k v : V) (K A B : Int) (S : List UInt8) (hE : (doP st k v K A B S).E = 0) : GRel (doP st k v K A B S).st (turnG gs K A (oneV k) v (findG gs A (oneV k))) := by
  unfold turnG
  by_cases h3 : K = 3
  · subst h3
    have e : (doP st k v 3 A B S).st = (makeP st).2.2 := rfl
    have e2 : (doP st k v 3 A B S).E = (makeP st).2.1 := rfl
    rw [e]
    rw [e2] at hE
    unfold makeP at hE ⊢
    by_cases c : 12 ≤ st.length
    · rw [if_pos c] at hE; cases hE
    · rw [if_neg c]
      exact rel_make H
  by_cases h4 : K = 4
  · subst h4; exact rel_nil
  by_cases h7 : K = 7
  · subst h7
    have e : (doP st k v 7 A B S).st = (setP st A k v).1 := rfl
    have e2 : (doP st k v 7 A B S).E = (setP st A k v).2 := rfl
    rw [e]
    rw [e2] at hE
    rw [if_neg (by decide), if_pos rfl]
    unfold setP at hE ⊢
    by_cases hA : A < 0 ∨ (st.length : Int) ≤ A
    · rw [if_pos hA] at hE; cases hE
    rw [if_neg hA] at hE ⊢
    by_cases hw : wfB k = false ∨ wfB v = false
    · rw [if_pos hw] at hE; cases hE
    rw [if_neg hw] at hE ⊢
    by_cases h0 : k.T = 0
    · rw [if_pos h0] at hE; cases hE
    rw [if_neg h0] at hE ⊢
    by_cases hn : k.T = 2 ∧ 2047 * 2 ^ 52 < k.N % 2 ^ 63
    · rw [if_pos hn] at hE; cases hE
    rw [if_neg hn] at hE ⊢
    have hwv : wfB v = true := by cases hh : wfB v; exact absurd (.inr hh) hw; rfl
    obtain ⟨t, ht, hgd⟩ := st_at (st := st) (h := A.toNat) (by omega)
    obtain ⟨a, hinv⟩ := hG.at ht
    have hfi := find_idx H ht hinv.one (oneV k)
    rw [show ((A.toNat : Nat) : Int) = A by omega] at hfi
    rw [hgd] at hE ⊢
    unfold setT at hE ⊢
    cases hf : findG gs A (oneV k) with
    | some i =>
      rw [hf] at hfi
      obtain ⟨u, h1, h2⟩ := hfi
      rw [h2]
      show GRel (st.set A.toNat (setVal t (rank gs A.toNat i) v)) (match gs[i]? with | some s => _ | none => _)
      rw [h1]
      exact rel_turn H ht h1
    | none =>
      rw [hf] at hfi
      rw [hfi] at hE ⊢
      have hnil := nilT hwv
      by_cases hz : v.T = 0
      · rw [hnil, decide_eq_true hz]
        simp only [if_true]
        rw [if_pos hz]
        exact H
      · rw [hnil, decide_eq_false hz] at hE ⊢
        simp only [Bool.false_eq_true, if_false] at hE ⊢
        rw [if_neg hz]
        by_cases hfl : 32 ≤ t.length
        · rw [if_pos hfl] at hE; cases hE
        · rw [if_neg hfl]
          exact rel_grow H ht
  · rw [if_neg h4, if_neg h7]
    have : (doP st k v K A B S).st = st := by
      unfold doP
      by_cases g1 : K = 1
      · rw [if_pos g1]
      rw [if_neg g1]
      by_cases g2 : K = 2
      · rw [if_pos g2]
      rw [if_neg g2]
      rw [if_neg h3]
      rw [if_neg h4]
      by_cases g5 : K = 5
      · rw [if_pos g5]
      rw [if_neg g5]
      by_cases g6 : K = 6
      · rw [if_pos g6]
      rw [if_neg g6]
      rw [if_neg h7]
      by_cases g8 : K = 8
      · rw [if_pos g8]
      rw [if_neg g8]
      by_cases g9 : K = 9
      · rw [if_pos g9]
      rw [if_neg g9]
      by_cases g10 : K = 10
      · rw [if_pos g10]
      rw [if_neg g10]
      by_cases g11 : K = 11
      · rw [if_pos g11]
      rw [if_neg g11]
      by_cases g12 : K = 12
      · rw [if_pos g12]
      rw [if_neg g12]
    rw [this]
    exact H
end Go.Proofs.Qxb6500292a
