/-
  SHOW, PLAIN.
-/
import Derived.Test.Qxb6500293aGreatRRZ2
namespace Go.Proofs.Qxb6500293aGreatRR
open Ieee (double)
set_option linter.unusedVariables false
set_option linter.unusedSimpArgs false

def valsP (l : List V) : List UInt8 := l.flatMap fun v => showV v ++ [44]
def frAt (t : Th) (j : Nat) : Fr := t.fr[j]?.getD dF
def midF (M : Mc) (t : Th) (j : Nat) : Nat := (frAt t j).base + (M.p (frAt t j).clo).ns
/-- A frame's slots; its operands. -/
def slF (M : Mc) (t : Th) (j : Nat) : List V := (t.sk.drop (frAt t j).base).take ((M.p (frAt t j).clo).ns)
def opF (M : Mc) (t : Th) (j : Nat) : List V := (t.sk.drop (midF M t j)).take (endF t j - midF M t j)
def showFr (M : Mc) (t : Th) (j : Nat) : List UInt8 :=
  ([[40], itoaL (frAt t j).clo, [44], itoaL (frAt t j).pc, if (frAt t j).prot then [112] else [45], [59], valsP (slF M t j), [59], valsP (opF M t j), [41]] : List (List UInt8)).flatten
def showTh (M : Mc) (t : Th) : List UInt8 := ([[32, 84], itoaL t.st, [44], itoaL t.fn] : List (List UInt8)).flatten ++ (List.range t.fr.length).flatMap (showFr M t)
def showUp (M : Mc) (c : Nat) (x : Nat) : List UInt8 := showV (upP M c x) ++ [44]
def showCl (M : Mc) (c : Nat) : List UInt8 := ([[32, 67], itoaL (M.c c).p, [91]] : List (List UInt8)).flatten ++ (List.range (M.c c).nup).flatMap (showUp M c) ++ [93]
def showHd (M : Mc) : List UInt8 := ([[70], itoaL M.fuel, [32, 69], itoaL M.en, [32, 79], itoaL M.out.length, [58], M.out] : List (List UInt8)).flatten
def showP (M : Mc) : List UInt8 := showHd M ++ (List.range M.th.length).flatMap (fun i => showTh M (M.t i)) ++ (List.range M.cs.length).flatMap (showCl M)
theorem flat_le {α : Type} {c : Nat} (f : α → List UInt8) : ∀ (l : List α), (∀ x ∈ l, (f x).length ≤ c) → (l.flatMap f).length ≤ c * l.length
  | [], _ => by simp
  | x :: l, h => by
    have h1 := flat_le f l (fun y hy => h y (List.mem_cons_of_mem _ hy))
    have h2 := h x List.mem_cons_self
    rw [List.flatMap_cons, List.length_append, List.length_cons, Nat.mul_add]
    omega
theorem okV.show {M : Mc} {v : V} (h : okV M v) : (showV v).length ≤ 63 := showV_len (Bool.and_eq_true_iff.1 h.1).1 h.2
theorem vals_len {M : Mc} {l : List V} (h : ∀ v ∈ l, okV M v) : (valsP l).length ≤ 64 * l.length := flat_le _ l (fun v hv => by
  rw [List.length_append]
  have := (h v hv).show
  show _ + 1 ≤ 64
  omega)
end Go.Proofs.Qxb6500293aGreatRR
