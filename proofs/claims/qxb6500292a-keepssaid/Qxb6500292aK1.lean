/-
  THE GHOST, PLAIN (no Go in sight): its slots, where it finds a key, the first live slot, and how it stands to the tables.
-/
import Derived.Test.Qxb6500292aR1
import Derived.Test.Qxb6500292aU4
namespace Go.Proofs.Qxb6500292a
set_option linter.unusedVariables false

abbrev Gs := List (Nat × (V × V))
/-- The places of one table, by the ghost. -/
def ofT (gs : Gs) (h : Nat) : Tbl := (gs.filter (fun s => decide (s.1 = h))).map (·.2)
structure GRel (st : List Tbl) (gs : Gs) : Prop where
  low : ∀ s ∈ gs, s.1 < st.length
  tab : ∀ h t, st[h]? = some t → ofT gs h = t
/-- How many of a table's places lie ahead. -/
def rank (gs : Gs) (h i : Nat) : Nat := (ofT (gs.take i) h).length
theorem ofT_append (a b : Gs) (h : Nat) : ofT (a ++ b) h = ofT a h ++ ofT b h := by unfold ofT; rw [List.filter_append, List.map_append]
theorem ofT_one (s : Nat × (V × V)) (h : Nat) : ofT [s] h = if s.1 = h then [s.2] else [] := by
  unfold ofT
  by_cases c : s.1 = h
  · simp [c]
  · simp [c]
theorem gs_split {gs : Gs} {i : Nat} {s : Nat × (V × V)} (h : gs[i]? = some s) : gs = gs.take i ++ ([s] ++ gs.drop (i + 1)) := by
  obtain ⟨hi, e⟩ := List.getElem?_eq_some_iff.1 h
  rw [← e, List.singleton_append, ← List.drop_eq_getElem_cons hi, List.take_append_drop]
theorem rank_succ {gs : Gs} {i : Nat} {s : Nat × (V × V)} (hs : gs[i]? = some s) (h : Nat) : rank gs h (i + 1) = rank gs h i + if s.1 = h then 1 else 0 := by
  unfold rank
  rw [List.take_add_one, hs, ofT_append, List.length_append]
  show _ + (ofT [s] h).length = _
  rw [ofT_one]
  by_cases c : s.1 = h
  · simp [c]
  · simp [c]
theorem rank_all (gs : Gs) (h : Nat) : rank gs h gs.length = (ofT gs h).length := by unfold rank; rw [List.take_length]
theorem rank_at {gs : Gs} {i h : Nat} {e : V × V} (hs : gs[i]? = some (h, e)) : (ofT gs h)[rank gs h i]? = some e := by
  conv => lhs; arg 1; rw [gs_split hs]
  rw [ofT_append, ofT_append, ofT_one, if_pos rfl]
  unfold rank
  rw [List.getElem?_append_right (Nat.le_refl _), Nat.sub_self]
  rfl
theorem rank_le (gs : Gs) (h i : Nat) : rank gs h i ≤ (ofT gs h).length := by
  unfold rank
  conv => rhs; rw [← List.take_append_drop i gs, ofT_append, List.length_append]
  omega
theorem rank_lt {gs : Gs} {i h : Nat} {e : V × V} (hs : gs[i]? = some (h, e)) : rank gs h i < (ofT gs h).length := (List.getElem?_eq_some_iff.1 (rank_at hs)).1
attribute [local simp] eqV_iff eqV_no eqV_self
/-- Where the ghost holds a key. -/
def findG (gs : Gs) (h : Int) (k : V) : Option Nat := gs.findIdx? (fun s => decide ((s.1 : Int) = h) && eqV s.2.1 k)
theorem findG_some {gs : Gs} {h : Int} {k : V} {i : Nat} (hf : findG gs h k = some i) : ∃ n v, gs[i]? = some (n, (k, v)) ∧ (n : Int) = h ∧ i < gs.length := by
  unfold findG at hf
  rw [List.findIdx?_eq_some_iff_getElem] at hf
  obtain ⟨hi, h1, _⟩ := hf
  simp at h1
  refine ⟨gs[i].1, gs[i].2.2, ?_, h1.1, hi⟩
  rw [List.getElem?_eq_getElem hi, ← h1.2]
theorem findG_none {gs : Gs} {h : Int} {k : V} (hf : findG gs h k = none) : ∀ s ∈ gs, ¬ ((s.1 : Int) = h ∧ s.2.1 = k) := by
  unfold findG at hf
  rw [List.findIdx?_eq_none_iff] at hf
  intro s hs h2
  have := hf s hs
  simp [h2.1, h2.2] at this
theorem findG_first {gs : Gs} {h : Int} {k : V} {i : Nat} {s : Nat × (V × V)} (h1 : gs[i]? = some s) (h2 : (s.1 : Int) = h ∧ s.2.1 = k) (h3 : ∀ q s', q < i → gs[q]? = some s' → ¬ ((s'.1 : Int) = h ∧ s'.2.1 = k)) : findG gs h k = some i := by
  unfold findG
  rw [List.findIdx?_eq_some_iff_getElem]
  obtain ⟨hi, e⟩ := List.getElem?_eq_some_iff.1 h1
  refine ⟨hi, by simp [e, h2.1, h2.2], ?_⟩
  intro j hj
  have := h3 j _ hj (List.getElem?_eq_getElem (by omega))
  simpa using this
theorem findG_no {gs : Gs} {h : Int} {k : V} (h3 : ∀ q s', q < gs.length → gs[q]? = some s' → ¬ ((s'.1 : Int) = h ∧ s'.2.1 = k)) : findG gs h k = none := by
  unfold findG
  rw [List.findIdx?_eq_none_iff]
  intro s hs
  obtain ⟨q, hq⟩ := List.getElem?_of_mem hs
  have := h3 q s (List.getElem?_eq_some_iff.1 hq).1 hq
  simpa using this
theorem mem_ofT {gs : Gs} {h : Nat} {e : V × V} : e ∈ ofT gs h ↔ (h, e) ∈ gs := by
  unfold ofT
  rw [List.mem_map]
  constructor
  · rintro ⟨s, hs, rfl⟩
    rw [List.mem_filter] at hs
    have : s.1 = h := by simpa using hs.2
    rw [← this]
    exact hs.1
  · intro hm
    exact ⟨(h, e), List.mem_filter.2 ⟨hm, by simp⟩, rfl⟩
/-- The ghost finds a key just where the table has a place for it. -/
theorem find_idx {st : List Tbl} {gs : Gs} (H : GRel st gs) {h : Nat} {t : Tbl} (ht : st[h]? = some t) (hone : (t.map (·.1)).Nodup) (k : V) :
    match findG gs h k with
    | some i => ∃ v, gs[i]? = some (h, (k, v)) ∧ idx t k = some (rank gs h i)
    | none => idx t k = none := by
  have e := H.tab h t ht
  cases hf : findG gs h k with
  | some i =>
    obtain ⟨n, v, h1, h2, _⟩ := findG_some hf
    have h2 : n = h := by omega
    subst h2
    refine ⟨v, h1, ?_⟩
    have := rank_at h1
    rw [e] at this
    exact idx_of hone this
  | none =>
    refine idx_no ?_
    intro q e' _ hq hk
    have hm : e' ∈ ofT gs h := by rw [e]; exact List.mem_of_getElem? hq
    exact findG_none hf _ (mem_ofT.1 hm) ⟨rfl, hk⟩
/-- Is this slot a live one of table h? -/
def liveS (h : Int) (s : Nat × (V × V)) : Bool := decide ((s.1 : Int) = h) && !decide (s.2.2.T = 0)
/-- Between two slots none is live: the table's walk meets nothing there. -/
theorem items_rank {gs : Gs} {h : Nat} (hv : ∀ s ∈ gs, wfB s.2.2 = true) {i : Nat} : ∀ (n : Nat), i ≤ n → n ≤ gs.length → (∀ m s, i ≤ m → m < n → gs[m]? = some s → liveS h s = false) → items (ofT gs h) (rank gs h i) false (rank gs h n) = [] := by
  intro n
  induction n with
  | zero =>
    intro h1 _ _
    have : i = 0 := by omega
    subst this
    exact items_low _ _ _ (Nat.le_refl _)
  | succ n ih =>
    intro h1 h2 h3
    by_cases c : i = n + 1
    · subst c
      exact items_low _ _ _ (Nat.le_refl _)
    · have hn : n < gs.length := by omega
      obtain ⟨s, hs⟩ : ∃ s, gs[n]? = some s := ⟨_, List.getElem?_eq_getElem hn⟩
      have ih := ih (by omega) (by omega) (fun m s a b => h3 m s a (by omega))
      rw [rank_succ hs]
      by_cases d : s.1 = h
      · rw [if_pos d]
        have hd := h3 n s (by omega) (by omega) hs
        obtain ⟨sh, se⟩ := s
        simp only at d
        subst d
        have hr := rank_at hs
        refine items_dead ih hr ?_
        rw [nilT (hv _ (List.mem_of_getElem? hs))]
        unfold liveS at hd
        simpa using hd
      · rw [if_neg d]; exact ih
end Go.Proofs.Qxb6500292a
