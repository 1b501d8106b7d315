/-
  THE PLAIN SIDE, MORE (no Go in sight): a table's places; the array part; what each index holds; and that 'find' finds.
-/
import Derived.Test.Qxb6500293aGreatRRT2
namespace Go.Proofs.Qxb6500293aGreatRR
open Ieee (double)
set_option linter.unusedVariables false
attribute [local simp] eqV_iff eqV_no eqV_self

abbrev Tbl := List (V × V)
/-- The place of a key. -/
def idx (t : Tbl) (k : V) : Option Nat := t.findIdx? (fun e => eqV e.1 k)
/-- The float64 of a whole number. -/
def fl (i : Nat) : Nat := double.nearest false i 0
def numKey (i : Nat) : V := ⟨2, fl i, []⟩
/-- Is this number one of the array part's? -/
def inArr (n N : Nat) : Bool := decide (1 ≤ toIntV N) && decide (toIntV N ≤ (n : Int))
def numsF (t : Tbl) (n : Nat) : Lit → Option Nat
  | .int .u64 x => if 0 ≤ x ∧ inArr n x.toNat = false then idx t ⟨2, x.toNat, []⟩ else none
  | _ => none
def strsF (t : Tbl) : Lit → Option Nat
  | .string l => idx t ⟨3, 0, l⟩
  | _ => none
def refsF (t : Tbl) : Lit → Option Nat
  | .int .u64 x => t.findIdx? (fun e => decide (e.1.T ≠ 2) && (decide (e.1.T ≠ 3) && decide ((packN e.1 : Int) = x)))
  | _ => none
def isNaNW (N : Nat) : Prop := 2047 * 2 ^ 52 < N % 2 ^ 63
/-- A key that a table may hold. -/
structure KeyOk (k : V) : Prop where
  wf : wfB k = true
  N : k.N < 18446744073709551616
  nil : k.T ≠ 0
  nan : k.T = 2 → ¬ isNaNW k.N
  zero : k.T = 2 → k.N ≠ 9223372036854775808
structure ValOk (v : V) : Prop where
  wf : wfB v = true
  N : v.N < 18446744073709551616
/-- A table and its array part, AT REST but for the closing. -/
structure Inv (t : Tbl) (a : List Nat) : Prop where
  len : t.length ≤ 32
  one : (t.map (·.1)).Nodup
  keys : ∀ e ∈ t, KeyOk e.1
  vals : ∀ e ∈ t, ValOk e.2
  arr : ∀ i, i < a.length → ∃ p e, a[i]? = some p ∧ t[p]? = some e ∧ e.1 = numKey (i + 1)
/-- The array part is closed. -/
def Closed (t : Tbl) (a : List Nat) : Prop := idx t (numKey (a.length + 1)) = none

theorem idx_some {t : Tbl} {k : V} {p : Nat} (h : idx t k = some p) : ∃ e, t[p]? = some e ∧ e.1 = k := by
  unfold idx at h
  rw [List.findIdx?_eq_some_iff_getElem] at h
  obtain ⟨hp, h1, _⟩ := h
  exact ⟨t[p], List.getElem?_eq_getElem hp, by simpa using h1⟩
theorem idx_none {t : Tbl} {k : V} (h : idx t k = none) : ∀ e ∈ t, e.1 ≠ k := by
  unfold idx at h
  rw [List.findIdx?_eq_none_iff] at h
  intro e he
  simpa using h e he
theorem idx_of {t : Tbl} (hi : (t.map (·.1)).Nodup) {p : Nat} {e : V × V} (h : t[p]? = some e) : idx t e.1 = some p := by
  unfold idx
  rw [List.findIdx?_eq_some_iff_getElem]
  obtain ⟨hp, h1⟩ := List.getElem?_eq_some_iff.1 h
  refine ⟨hp, by simp [h1], ?_⟩
  intro j hj
  have hn := List.pairwise_iff_getElem.1 hi j p (by simp; omega) (by simpa using hp) hj
  simp only [List.getElem_map, h1] at hn
  simpa using hn
theorem idx_lt {t : Tbl} {k : V} {p : Nat} (h : idx t k = some p) : p < t.length := by
  obtain ⟨e, h1, _⟩ := idx_some h
  exact (List.getElem?_eq_some_iff.1 h1).1

/-- A whole number's float is that float alone. -/
theorem toInt_fl {N : Nat} (hN : N < 18446744073709551616) {i : Nat} (hi : 1 ≤ i) (h : toIntV N = (i : Int)) : N = fl i := by
  unfold toIntV at h
  by_cases c : isWh N
  · rw [if_pos c] at h
    have hb := back_rung c.1 c.2
    unfold whV at h
    generalize hV : Fl.wholeOf (magM (N % 2 ^ 63)) (magE (N % 2 ^ 63)) = W at *
    cases hn : neg N
    · rw [hn] at h
      have : W = i := by simp [Fl.sg] at h; omega
      subst this
      unfold fl
      rw [hb]
      unfold neg at hn
      have := of_decide_eq_false hn
      omega
    · rw [hn] at h
      simp [Fl.sg] at h
      omega
  · rw [if_neg c] at h; omega
theorem fl_lt (i : Nat) : fl i < 18446744073709551616 := by
  have := Fl.nearest_false_le i 0
  unfold fl; omega
theorem fl_small : ∀ i, i ≤ 34 → (toIntV (fl i) = (i : Int) ∧ toIntB (fl i) = true) := by
  decide +kernel

theorem numKey_ok {i : Nat} (h1 : 1 ≤ i) (h2 : i ≤ 34) : KeyOk (numKey i) := by
  refine ⟨rfl, fl_lt i, by show (2 : Int) ≠ 0; decide, fun _ => ?_, fun _ => ?_⟩
  · have := Fl.nearest_false_le i 0
    unfold isNaNW
    show ¬ 2047 * 2 ^ 52 < fl i % 2 ^ 63
    unfold fl; omega
  · have := Fl.nearest_false_le i 0
    show fl i ≠ _
    unfold fl; omega
theorem toIntV_small {N : Nat} (h : toIntV N ≠ 0) : toIntB N = true := by
  unfold toIntV at h
  unfold toIntB
  by_cases c : isWh N
  · exact decide_eq_true c
  · rw [if_neg c] at h; exact absurd rfl h
/-- What the array part says is what the list says. -/
theorem find_arr {t : Tbl} {a : List Nat} (hi : Inv t a) {k : V} (hk : wfB k = true) (hN : k.N < 18446744073709551616) (h2 : k.T = 2) {i : Nat} (h1 : 1 ≤ i) (hl : i ≤ a.length) (h : toIntV k.N = (i : Int)) :
    ∃ p, a[i - 1]? = some p ∧ idx t k = some p := by
  obtain ⟨p, e, e1, e2, e3⟩ := hi.arr (i - 1) (by omega)
  refine ⟨p, e1, ?_⟩
  rw [show i - 1 + 1 = i from by omega] at e3
  have hf := toInt_fl hN h1 h
  have : k = e.1 := by
    rw [e3]
    obtain ⟨T, N, S⟩ := k
    have hS := (wf_other hk (by rw [h2]; decide)).1
    simp only at *
    subst h2 hS hf
    rfl
  rw [this]
  exact idx_of hi.one e2
theorem find_nums {t : Tbl} {n : Nat} {k : V} (hk : wfB k = true) (h2 : k.T = 2) (h : inArr n k.N = false) : numsF t n (.int .u64 (k.N : Int)) = idx t k := by
  obtain ⟨T, N, S⟩ := k
  have hS := (wf_other hk (by rw [h2]; decide)).1
  simp only at *
  subst h2 hS
  unfold numsF
  simp [h]
theorem find_strs {t : Tbl} {k : V} (hk : wfB k = true) (h3 : k.T = 3) : strsF t (.string k.S) = idx t k := by
  obtain ⟨T, N, S⟩ := k
  have hS := (wf_str hk h3).1
  simp only at *
  subst h3 hS
  rfl
theorem find_refs {t : Tbl} (hi : ∀ e ∈ t, KeyOk e.1) {k : V} (hk : wfB k = true) (h2 : k.T ≠ 2) (h3 : k.T ≠ 3) : refsF t (.int .u64 (packN k : Int)) = idx t k := by
  show t.findIdx? (fun e => decide (e.1.T ≠ 2) && (decide (e.1.T ≠ 3) && decide ((packN e.1 : Int) = (packN k : Int)))) = t.findIdx? (fun e => eqV e.1 k)
  induction t with
  | nil => rfl
  | cons e t ih =>
    have he := hi e (by simp)
    have ih := ih (fun x hx => hi x (by simp [hx]))
    have hp : (decide (e.1.T ≠ 2) && (decide (e.1.T ≠ 3) && decide ((packN e.1 : Int) = (packN k : Int)))) = eqV e.1 k := by
      by_cases c : e.1 = k
      · rw [c, eqV_self]; simp [h2, h3]
      · rw [(eqV_no _ _).2 c]
        by_cases c2 : e.1.T = 2
        · simp [c2]
        by_cases c3 : e.1.T = 3
        · simp [c3]
        have : ¬ packN e.1 = packN k := fun h => c (pack_inj he.wf hk c2 c3 h2 h3 h)
        simp [c2, c3]; omega
    rw [List.findIdx?_cons, List.findIdx?_cons, hp, ih]
theorem pack_lt {k : V} (hk : wfB k = true) (h2 : k.T ≠ 2) (h3 : k.T ≠ 3) : packN k < 18446744073709551616 := by
  obtain ⟨_, a, b, c⟩ := wf_other hk h3
  have := c h2
  unfold packN
  omega
/-- The key made one: as the table's layer makes it. -/
theorem oneV_eq {k : V} (hN : k.N < 18446744073709551616) (h2 : k.T = 2) : oneV k = if toIntB k.N = true ∧ toIntV k.N = 0 then { k with N := 0 } else k := by
  unfold oneV
  by_cases c : k.N = 9223372036854775808
  · rw [if_pos ⟨h2, c⟩]
    have h1 : toIntB k.N = true ∧ toIntV k.N = 0 := by rw [c]; decide +kernel
    rw [if_pos h1]
  · rw [if_neg (fun h => c h.2)]
    by_cases d : toIntB k.N = true ∧ toIntV k.N = 0
    · rw [if_pos d]
      have hz : k.N = 0 := by
        obtain ⟨d1, d2⟩ := d
        have hw := of_decide_eq_true d1
        unfold toIntV at d2
        rw [if_pos hw] at d2
        have hb := back_rung hw.1 hw.2
        unfold whV at d2
        generalize Fl.wholeOf (magM (k.N % 2 ^ 63)) (magE (k.N % 2 ^ 63)) = W at *
        have : W = 0 := by
          cases hn : neg k.N
          · rw [hn] at d2; simp [Fl.sg] at d2; omega
          · rw [hn] at d2; simp [Fl.sg] at d2; omega
        subst this
        rw [show double.nearest false 0 0 = 0 from by decide +kernel] at hb
        omega
      obtain ⟨T, N, S⟩ := k
      simp only at hz
      subst hz
      rfl
    · rw [if_neg d]
end Go.Proofs.Qxb6500293aGreatRR
