/-
  THE PLAIN FUNCTION of num.Parse (no Go in sight).
-/
import Derived.Test.Qxb6500293aGreatRRPl
namespace Go.Proofs.Qxb6500293aGreatRR
open Ieee (double)

def digs (l : List UInt8) : List UInt8 := l.takeWhile isDigit
/-- How many digits stand at place i; the number that they come to on top of m. -/
def dg (t : List UInt8) (i : Nat) : Nat := (digs (t.drop i)).length
def nm (t : List UInt8) (i m : Nat) : Nat := val m (digs (t.drop i)) % 18446744073709551616

/-- num.magnitude. -/
def magP (t : List UInt8) : Option Nat :=
  if t = [105, 110, 102] then some (2047 * 2 ^ 52)
  else if dg t 0 = 0 ∨ 16 < dg t 0 then none
  else if dg t 0 = t.length then (if nm t 0 0 ≤ 2 ^ 53 then some (double.nearest false (nm t 0 0) 0) else none)
  else if t[dg t 0]? = some 46 then
    if dg t (dg t 0 + 1) = 0 ∨ dg t 0 + 1 + dg t (dg t 0 + 1) ≠ t.length ∨ 16 < dg t 0 + dg t (dg t 0 + 1) ∨ 2 ^ 53 < nm t (dg t 0 + 1) (nm t 0 0) then none
    else double.div (double.nearest false (nm t (dg t 0 + 1) (nm t 0 0)) 0) (double.nearest false (10 ^ dg t (dg t 0 + 1)) 0)
  else if t[dg t 0]? = some 112 then
    if t[dg t 0 + 1]? = some 45 then
      if dg t (dg t 0 + 2) = 0 ∨ 4 < dg t (dg t 0 + 2) ∨ dg t 0 + 2 + dg t (dg t 0 + 2) ≠ t.length ∨ 2 ^ 53 < nm t 0 0 then none
      else some (double.nearest false (nm t 0 0) (-(nm t (dg t 0 + 2) 0 : Int)))
    else
      if dg t (dg t 0 + 1) = 0 ∨ 4 < dg t (dg t 0 + 1) ∨ dg t 0 + 1 + dg t (dg t 0 + 1) ≠ t.length ∨ 2 ^ 53 < nm t 0 0 then none
      else some (double.nearest false (nm t 0 0) (nm t (dg t 0 + 1) 0 : Int))
  else none

theorem magP_dot {t : List UInt8} (h1 : ¬ t = [105, 110, 102]) (h2 : ¬ (dg t 0 = 0 ∨ 16 < dg t 0)) (h5 : ¬ dg t 0 = t.length) (h6 : t[dg t 0]? = some 46) :
    magP t = if dg t (dg t 0 + 1) = 0 ∨ dg t 0 + 1 + dg t (dg t 0 + 1) ≠ t.length ∨ 16 < dg t 0 + dg t (dg t 0 + 1) ∨ 2 ^ 53 < nm t (dg t 0 + 1) (nm t 0 0) then none
    else double.div (double.nearest false (nm t (dg t 0 + 1) (nm t 0 0)) 0) (double.nearest false (10 ^ dg t (dg t 0 + 1)) 0) := by
  unfold magP; rw [if_neg h1, if_neg h2, if_neg h5, if_pos h6]
theorem magP_down {t : List UInt8} (h1 : ¬ t = [105, 110, 102]) (h2 : ¬ (dg t 0 = 0 ∨ 16 < dg t 0)) (h5 : ¬ dg t 0 = t.length) (h6 : t[dg t 0]? = some 112) (h7 : t[dg t 0 + 1]? = some 45) :
    magP t = if dg t (dg t 0 + 2) = 0 ∨ 4 < dg t (dg t 0 + 2) ∨ dg t 0 + 2 + dg t (dg t 0 + 2) ≠ t.length ∨ 2 ^ 53 < nm t 0 0 then none
      else some (double.nearest false (nm t 0 0) (-(nm t (dg t 0 + 2) 0 : Int))) := by
  unfold magP; rw [if_neg h1, if_neg h2, if_neg h5, if_neg (by rw [h6]; decide), if_pos h6, if_pos h7]
theorem magP_up {t : List UInt8} (h1 : ¬ t = [105, 110, 102]) (h2 : ¬ (dg t 0 = 0 ∨ 16 < dg t 0)) (h5 : ¬ dg t 0 = t.length) (h6 : t[dg t 0]? = some 112) (h7 : ¬ t[dg t 0 + 1]? = some 45) :
    magP t = if dg t (dg t 0 + 1) = 0 ∨ 4 < dg t (dg t 0 + 1) ∨ dg t 0 + 1 + dg t (dg t 0 + 1) ≠ t.length ∨ 2 ^ 53 < nm t 0 0 then none
      else some (double.nearest false (nm t 0 0) (nm t (dg t 0 + 1) 0 : Int)) := by
  unfold magP; rw [if_neg h1, if_neg h2, if_neg h5, if_neg (by rw [h6]; decide), if_pos h6, if_neg h7]
theorem magP_other {t : List UInt8} (h1 : ¬ t = [105, 110, 102]) (h2 : ¬ (dg t 0 = 0 ∨ 16 < dg t 0)) (h5 : ¬ dg t 0 = t.length) (h6 : ¬ t[dg t 0]? = some 46) (h7 : ¬ t[dg t 0]? = some 112) : magP t = none := by
  unfold magP; rw [if_neg h1, if_neg h2, if_neg h5, if_neg h6, if_neg h7]

/-- THE NaN. -/
def nanW : Nat := 9221120237041090561
/-- num.Parse: the word and the error. -/
def parseP (s : List UInt8) : Nat × Int :=
  if 24 < s.length then (0, 1)
  else if s = [110, 97, 110] then (nanW, 0)
  else if s[0]? = some 45 then
    match magP s.tail with
    | some f => (f ^^^ 2 ^ 63, 0)
    | none => (0, 2)
  else
    match magP s with
    | some f => (f, 0)
    | none => (0, 2)

theorem dg_le (t : List UInt8) (i : Nat) : dg t i ≤ t.length - i := by
  unfold dg digs
  have := (List.takeWhile_sublist (p := isDigit) (l := t.drop i)).length_le
  simpa using this
theorem nm_lt (t : List UInt8) (i m : Nat) : nm t i m < 18446744073709551616 := Nat.mod_lt _ (by decide)

theorem val_lt (m : Nat) (l : List UInt8) (h : ∀ c ∈ l, isDigit c = true) : val m l < (m + 1) * 10 ^ l.length := by
  induction l generalizing m with
  | nil => unfold val; simp
  | cons c l ih =>
    rw [val_cons]
    have hc := h c (by simp)
    have h2 := ih (m * 10 + (c.toNat - 48)) (fun c' h' => h c' (by simp [h']))
    have hd : c.toNat - 48 ≤ 9 := by simp [isDigit] at hc; omega
    rw [List.length_cons, Nat.pow_succ]
    calc val (m * 10 + (c.toNat - 48)) l < (m * 10 + (c.toNat - 48) + 1) * 10 ^ l.length := h2
      _ ≤ ((m + 1) * 10) * 10 ^ l.length := Nat.mul_le_mul_right _ (by omega)
      _ = (m + 1) * (10 ^ l.length * 10) := by rw [Nat.mul_assoc, Nat.mul_comm 10]
theorem digs_digits (l : List UInt8) : ∀ c ∈ digs l, isDigit c = true := by
  intro c hc
  exact List.all_eq_true.1 (List.all_takeWhile (p := isDigit) (l := l)) c hc
theorem nm0_lt (t : List UInt8) (i : Nat) : nm t i 0 < 10 ^ dg t i := by
  unfold nm dg
  have := val_lt 0 (digs (t.drop i)) (digs_digits _)
  have h2 := Nat.mod_le (val 0 (digs (t.drop i))) 18446744073709551616
  omega

end Go.Proofs.Qxb6500293aGreatRR
