/-
  THE PLAIN SIDE OF THE TABLES (no Go in sight): values, what is well formed, keys made one, how a value shows.
-/
import Derived.Test.Qxb6500293aGreatRRM12
namespace Go.Proofs.Qxb6500293aGreatRR
open Ieee (double)

/-- A value of the language. -/
structure V where
  T : Int
  N : Nat
  S : List UInt8
/-- Two values are the same, or not (given by hand where it is asked). -/
def decV (a b : V) : Decidable (a = b) :=
  if h1 : a.T = b.T then
    if h2 : a.N = b.N then
      if h3 : a.S = b.S then isTrue (by cases a; cases b; simp only at h1 h2 h3; subst h1 h2 h3; rfl)
      else isFalse (fun e => h3 (by rw [e]))
    else isFalse (fun e => h2 (by rw [e]))
  else isFalse (fun e => h1 (by rw [e]))
/-- Are two values the same? -/
def eqV (a b : V) : Bool := @decide (a = b) (decV a b)
theorem eqV_iff (a b : V) : eqV a b = true ↔ a = b := ⟨fun h => @of_decide_eq_true _ (decV a b) h, fun h => @decide_eq_true _ (decV a b) h⟩
theorem eqV_no (a b : V) : eqV a b = false ↔ a ≠ b := ⟨fun h => @of_decide_eq_false _ (decV a b) h, fun h => @decide_eq_false _ (decV a b) h⟩
theorem eqV_self (a : V) : eqV a a = true := (eqV_iff a a).2 rfl
def nilV : V := ⟨0, 0, []⟩
def isNilB (v : V) : Bool := eqV v nilV
/-- In an int64's, a word's and a string's bounds. -/
structure V.Ok (v : V) : Prop where
  T1 : -9223372036854775808 ≤ v.T
  T2 : v.T ≤ 9223372036854775807
  N : v.N < 18446744073709551616
  S : v.S.length ≤ 9223372036854775807

/-- api.WellFormed. -/
def wfB (v : V) : Bool :=
  if v.T = 3 then decide (v.N = 0) && decide (v.S.length ≤ 40)
  else if decide (v.S = []) && (decide (0 ≤ v.T) && decide (v.T ≤ 7)) then
    if v.T = 0 then decide (v.N = 0)
    else if v.T = 1 then decide (v.N ≤ 1)
    else if v.T = 6 then decide (1 ≤ v.N) && decide (v.N ≤ 11)
    else if v.T = 4 ∨ v.T = 5 ∨ v.T = 7 then decide (v.N < 4294967296)
    else true
  else false

/-- api.ShowVal at a well-formed value. -/
def showV (v : V) : List UInt8 :=
  if v.T = 3 then [115] ++ itoaL v.S.length ++ [58] ++ v.S
  else [118] ++ itoaL v.T ++ [46] ++ dec v.N
def pairV (k v : V) : List UInt8 := showV k ++ [61] ++ showV v

/-- -0 is the key 0. -/
def oneV (k : V) : V := if k.T = 2 ∧ k.N = 9223372036854775808 then { k with N := 0 } else k
/-- The whole number that a key is, or 0. -/
def oneI (k : V) : Int := if k.T = 2 then toIntV k.N else 0
/-- A key's word. -/
def packN (k : V) : Nat := k.T.toNat * 4294967296 + k.N
theorem wf_str {v : V} (h : wfB v = true) (ht : v.T = 3) : v.N = 0 ∧ v.S.length ≤ 40 := by
  unfold wfB at h
  rw [if_pos ht] at h
  simpa using h
theorem wf_other {v : V} (h : wfB v = true) (ht : v.T ≠ 3) : v.S = [] ∧ 0 ≤ v.T ∧ v.T ≤ 7 ∧ (v.T ≠ 2 → v.N < 4294967296) := by
  unfold wfB at h
  rw [if_neg ht] at h
  by_cases c : (decide (v.S = []) && (decide (0 ≤ v.T) && decide (v.T ≤ 7))) = true
  · rw [if_pos c] at h
    simp at c
    refine ⟨c.1, c.2.1, c.2.2, fun h2 => ?_⟩
    by_cases t0 : v.T = 0
    · rw [if_pos t0] at h; simp at h; omega
    rw [if_neg t0] at h
    by_cases t1 : v.T = 1
    · rw [if_pos t1] at h; simp at h; omega
    rw [if_neg t1] at h
    by_cases t6 : v.T = 6
    · rw [if_pos t6] at h; simp at h; omega
    rw [if_neg t6] at h
    rw [if_pos (by omega)] at h
    simpa using h
  · rw [if_neg c] at h; cases h
theorem wf_ok {v : V} (h : wfB v = true) (hN : v.N < 18446744073709551616) : v.Ok := by
  by_cases t : v.T = 3
  · have := wf_str h t; exact ⟨by omega, by omega, hN, by omega⟩
  · have := wf_other h t; exact ⟨by omega, by omega, hN, by rw [this.1]; simp⟩
/-- Two keys of one kind with one word are one. -/
theorem pack_inj {a b : V} (ha : wfB a = true) (hb : wfB b = true) (h1 : a.T ≠ 2) (h2 : a.T ≠ 3) (h3 : b.T ≠ 2) (h4 : b.T ≠ 3) (h : packN a = packN b) : a = b := by
  obtain ⟨a1, a2, a3, a4⟩ := wf_other ha h2
  obtain ⟨b1, b2, b3, b4⟩ := wf_other hb h4
  have a5 := a4 h1
  have b5 := b4 h3
  unfold packN at h
  obtain ⟨T, N, S⟩ := a
  obtain ⟨T', N', S'⟩ := b
  simp only at *
  subst a1 b1
  have : T = T' := by omega
  subst this
  have : N = N' := by omega
  subst this
  rfl
end Go.Proofs.Qxb6500293aGreatRR
