/-
  THE PLAIN LAWS of numm.Parse (no Go in sight): where a run of digits ends; the magnitude that comes out.
-/
import Derived.Test.Qxb6500290aM14
namespace Go.Proofs.Qxb6500290a
open Ieee (double)

/-- A run of digits ends here: the place and the number. -/
theorem run_end {t : List UInt8} {i j m q : Nat} (hq : q = val m ((t.drop i).take j) % 18446744073709551616) (hd : ∀ c ∈ (t.drop i).take j, isDigit c = true) (hj : i + j ≤ t.length)
    (h2 : i + j = t.length ∨ ∃ h : i + j < t.length, isDigit t[i + j] = false) : dg t i = j ∧ nm t i m = q := by
  have e : digs (t.drop i) = (t.drop i).take j := by
    refine digs_eq hd ?_
    rcases h2 with h | ⟨h, h3⟩
    · left; rw [List.drop_drop]; exact List.drop_eq_nil_of_le (by omega)
    · right; exact ⟨_, _, by rw [List.drop_drop]; exact List.drop_eq_getElem_cons h, h3⟩
  unfold dg nm
  rw [e, ← hq]
  refine ⟨?_, rfl⟩
  simp; omega
theorem dg_ge {t : List UInt8} {i j : Nat} (hd : ∀ c ∈ (t.drop i).take j, isDigit c = true) (hj : i + j ≤ t.length) : j ≤ dg t i := by
  unfold dg digs
  have := List.takeWhile_append_of_pos (l₁ := (t.drop i).take j) (l₂ := (t.drop i).drop j) hd
  rw [List.take_append_drop] at this
  rw [this]
  simp; omega
/-- One digit more. -/
theorem run_more {t : List UInt8} {i j m q : Nat} (hq : q = val m ((t.drop i).take j) % 18446744073709551616) (hd : ∀ c ∈ (t.drop i).take j, isDigit c = true) (h : i + j < t.length) (hc : isDigit t[i + j] = true) :
    (q * 10 + (t[i + j].toNat - 48)) % 18446744073709551616 = val m ((t.drop i).take (j + 1)) % 18446744073709551616 ∧ ∀ c ∈ (t.drop i).take (j + 1), isDigit c = true := by
  have htk : (t.drop i).take (j + 1) = (t.drop i).take j ++ [t[i + j]] := by
    rw [List.take_succ_eq_append_getElem (by simp; omega)]; simp
  rw [htk]
  constructor
  · rw [val_snoc]; omega
  · intro c hc'
    rcases List.mem_append.1 hc' with h | h
    · exact hd c h
    · rw [List.mem_singleton.1 h]; exact hc

theorem magP_none {t : List UInt8} (h1 : ¬ t = [105, 110, 102]) (h2 : dg t 0 = 0 ∨ 16 < dg t 0) : magP t = none := by
  unfold magP; rw [if_neg h1, if_pos h2]
theorem magP_all {t : List UInt8} (h1 : ¬ t = [105, 110, 102]) (h2 : ¬ (dg t 0 = 0 ∨ 16 < dg t 0)) (h5 : dg t 0 = t.length) : magP t = if nm t 0 0 ≤ 2 ^ 53 then some (double.nearest false (nm t 0 0) 0) else none := by
  unfold magP; rw [if_neg h1, if_neg h2, if_pos h5]
/-- Too great a number ahead of the 'p' or the end. -/
theorem magP_big {t : List UInt8} (h1 : ¬ t = [105, 110, 102]) (h6 : ¬ t[dg t 0]? = some 46) (h : 2 ^ 53 < nm t 0 0) : magP t = none := by
  by_cases h2 : dg t 0 = 0 ∨ 16 < dg t 0
  · exact magP_none h1 h2
  by_cases h5 : dg t 0 = t.length
  · rw [magP_all h1 h2 h5, if_neg (by omega)]
  by_cases h7 : t[dg t 0]? = some 112
  · by_cases h8 : t[dg t 0 + 1]? = some 45
    · rw [magP_down h1 h2 h5 h7 h8, if_pos (.inr (.inr (.inr h)))]
    · rw [magP_up h1 h2 h5 h7 h8, if_pos (.inr (.inr (.inr h)))]
  · exact magP_other h1 h2 h5 h6 h7

/-- Parse's answer, out of the sign and the magnitude. -/
def signedP (b : Bool) (o : Option Nat) : Nat × Int := match o with
  | some f => (if b then f ^^^ 2 ^ 63 else f, 0)
  | none => (0, 2)
theorem parseP_sg {s : List UInt8} (h1 : s.length ≤ 24) (h2 : ¬ s = [110, 97, 110]) (b : Bool) (k : Nat) (hb : (s[0]? = some 45 ∧ b = true ∧ k = 1) ∨ (¬ s[0]? = some 45 ∧ b = false ∧ k = 0)) : parseP s = signedP b (magP (s.drop k)) := by
  unfold parseP signedP
  rw [if_neg (by omega), if_neg h2]
  rcases hb with ⟨h3, rfl, rfl⟩ | ⟨h3, rfl, rfl⟩
  · rw [if_pos h3, ← List.drop_one]; cases magP (s.drop 1) <;> rfl
  · rw [if_neg h3, List.drop_zero]; cases magP s <;> rfl
theorem xor_top {x : Nat} (h : x < 2 ^ 63) : x ^^^ 2 ^ 63 = 2 ^ 63 + x := by
  have h0 := Nat.two_pow_add_eq_or_of_lt h 1
  rw [Nat.mul_one] at h0
  rw [h0]
  apply Nat.eq_of_testBit_eq
  intro j
  rw [Nat.testBit_xor, Nat.testBit_or, Nat.testBit_two_pow]
  by_cases c : 63 = j
  · subst c; rw [Nat.testBit_lt_two_pow h]; simp
  · simp [c]
theorem nearest_flip (m : Nat) (e : Int) : double.nearest true m e = double.nearest false m e ^^^ 2 ^ 63 := by
  have h1 := Fl.nearest_false_le m e
  rw [nearest_true, xor_top (by omega)]

theorem dg_drop (s : List UInt8) (k i : Nat) : dg (s.drop k) i = dg s (k + i) := by unfold dg; rw [List.drop_drop]
theorem nm_drop (s : List UInt8) (k i m : Nat) : nm (s.drop k) i m = nm s (k + i) m := by unfold nm; rw [List.drop_drop]

section
variable {s : List UInt8} {k : Nat}
theorem mag_none (hinf : ¬ s.drop k = [105, 110, 102]) (h : dg s k = 0 ∨ 16 < dg s k) : magP (s.drop k) = none := magP_none hinf (by rw [dg_drop]; exact h)
theorem mag_big (hinf : ¬ s.drop k = [105, 110, 102]) (h6 : ¬ s[k + dg s k]? = some 46) (h : 2 ^ 53 < nm s k 0) : magP (s.drop k) = none :=
  magP_big hinf (by rw [dg_drop, List.getElem?_drop]; exact h6) (by rw [nm_drop]; exact h)
theorem mag_all (hinf : ¬ s.drop k = [105, 110, 102]) (h1 : 1 ≤ dg s k) (h2 : dg s k ≤ 16) (hl : k + dg s k = s.length) (h : nm s k 0 ≤ 2 ^ 53) : magP (s.drop k) = some (double.nearest false (nm s k 0) 0) := by
  rw [magP_all hinf (by rw [dg_drop, Nat.add_zero]; omega) (by rw [dg_drop, List.length_drop, Nat.add_zero]; omega), nm_drop, Nat.add_zero, if_pos h]
theorem mag_other (hinf : ¬ s.drop k = [105, 110, 102]) (hk : k ≤ s.length) (h1 : 1 ≤ dg s k) (h2 : dg s k ≤ 16) (hl : k + dg s k < s.length) (h6 : ¬ s[k + dg s k]? = some 46) (h7 : ¬ s[k + dg s k]? = some 112) : magP (s.drop k) = none :=
  magP_other hinf (by rw [dg_drop, Nat.add_zero]; omega) (by rw [dg_drop, List.length_drop, Nat.add_zero]; omega) (by rw [dg_drop, List.getElem?_drop]; exact h6) (by rw [dg_drop, List.getElem?_drop]; exact h7)
theorem mag_dot (hinf : ¬ s.drop k = [105, 110, 102]) (hk : k ≤ s.length) (h1 : 1 ≤ dg s k) (h2 : dg s k ≤ 16) (hl : k + dg s k < s.length) (h6 : s[k + dg s k]? = some 46) :
    magP (s.drop k) = if dg s (k + dg s k + 1) = 0 ∨ k + dg s k + 1 + dg s (k + dg s k + 1) ≠ s.length ∨ 16 < dg s k + dg s (k + dg s k + 1) ∨ 2 ^ 53 < nm s (k + dg s k + 1) (nm s k 0) then none
      else double.div (double.nearest false (nm s (k + dg s k + 1) (nm s k 0)) 0) (double.nearest false (10 ^ dg s (k + dg s k + 1)) 0) := by
  rw [magP_dot hinf (by rw [dg_drop, Nat.add_zero]; omega) (by rw [dg_drop, List.length_drop, Nat.add_zero]; omega) (by rw [dg_drop, List.getElem?_drop]; exact h6)]
  simp only [dg_drop, nm_drop, List.length_drop, Nat.add_zero, ← Nat.add_assoc]
  congr 1
  simp only [eq_iff_iff]
  omega
theorem mag_p (hinf : ¬ s.drop k = [105, 110, 102]) (hk : k ≤ s.length) (h1 : 1 ≤ dg s k) (h2 : dg s k ≤ 16) (hl : k + dg s k < s.length) (h6 : s[k + dg s k]? = some 112) (c : Nat) (g : Bool)
    (hc : (s[k + dg s k + 1]? = some 45 ∧ c = 2 ∧ g = true) ∨ (¬ s[k + dg s k + 1]? = some 45 ∧ c = 1 ∧ g = false)) :
    magP (s.drop k) = if dg s (k + dg s k + c) = 0 ∨ 4 < dg s (k + dg s k + c) ∨ k + dg s k + c + dg s (k + dg s k + c) ≠ s.length ∨ 2 ^ 53 < nm s k 0 then none
      else some (double.nearest false (nm s k 0) (if g then -(nm s (k + dg s k + c) 0 : Int) else (nm s (k + dg s k + c) 0 : Int))) := by
  rcases hc with ⟨h7, rfl, rfl⟩ | ⟨h7, rfl, rfl⟩
  · rw [magP_down hinf (by rw [dg_drop, Nat.add_zero]; omega) (by rw [dg_drop, List.length_drop, Nat.add_zero]; omega) (by rw [dg_drop, List.getElem?_drop]; exact h6) (by rw [dg_drop, List.getElem?_drop]; exact h7)]
    simp only [dg_drop, nm_drop, List.length_drop, Nat.add_zero, ← Nat.add_assoc, if_true]
    congr 1
    simp only [eq_iff_iff]
    omega
  · rw [magP_up hinf (by rw [dg_drop, Nat.add_zero]; omega) (by rw [dg_drop, List.length_drop, Nat.add_zero]; omega) (by rw [dg_drop, List.getElem?_drop]; exact h6) (by rw [dg_drop, List.getElem?_drop]; exact h7)]
    simp only [dg_drop, nm_drop, List.length_drop, Nat.add_zero, ← Nat.add_assoc, Bool.false_eq_true, if_false]
    congr 1
    simp only [eq_iff_iff]
    omega
end
/-- The sign laid on. -/
def laidS (b : Bool) (x : Nat) : Nat := if b then x ^^^ 2 ^ 63 else x
theorem signedP_some (b : Bool) (x : Nat) : signedP b (some x) = (laidS b x, 0) := by simp only [signedP, laidS]
theorem laidS_nearest (b : Bool) (m : Nat) (e : Int) : laidS b (double.nearest false m e) = double.nearest b m e := by
  cases b
  · simp only [laidS, Bool.false_eq_true, if_false]
  · simp only [laidS, if_true, nearest_flip]
theorem or_sg (b : Bool) {x : Nat} (h : x < 2 ^ 63) : bits .or .u64 (sgW b : Int) (x : Int) = ((laidS b x : Nat) : Int) := by
  rw [or_word b x h]
  cases b
  · rw [Fl.word_false]; rfl
  · rw [Fl.word_true, laidS, if_pos rfl, xor_top h]
end Go.Proofs.Qxb6500290a
