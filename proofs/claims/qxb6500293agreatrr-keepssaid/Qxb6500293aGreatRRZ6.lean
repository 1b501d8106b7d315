/-
  THE LOADER, PLAIN.
-/
import Derived.Test.Qxb6500293aGreatRRX2
namespace Go.Proofs.Qxb6500293aGreatRR
open Ieee (double)
set_option linter.unusedVariables false
set_option linter.unusedSimpArgs false

/-- The reader. -/
structure Rd where
  bs : List UInt8
  i : Nat
  bad : Bool
def Rd.spoil (r : Rd) : Rd := { r with bad := true }
/-- take: the window, or none. -/
def takeP (r : Rd) (n : Nat) : Rd × List UInt8 := if r.bad = true ∨ r.bs.length - r.i < n then (r.spoil, []) else ({ r with i := r.i + n }, (r.bs.drop r.i).take n)
def byte (l : List UInt8) (j : Nat) : Nat := (l[j]?.getD 0).toNat
def u8P (r : Rd) : Rd × Nat := ((takeP r 1).1, if (takeP r 1).1.bad then 0 else byte (takeP r 1).2 0)
def u16P (r : Rd) : Rd × Nat := ((takeP r 2).1, if (takeP r 2).1.bad then 0 else byte (takeP r 2).2 0 + 256 * byte (takeP r 2).2 1)
/-- Eight bytes, the low one first. -/
def le8 (l : List UInt8) : Nat := byte l 0 + 256 * (byte l 1 + 256 * (byte l 2 + 256 * (byte l 3 + 256 * (byte l 4 + 256 * (byte l 5 + 256 * (byte l 6 + 256 * byte l 7))))))
def badN (x : Nat) : Bool := decide (2047 * 2 ^ 52 < x % 2 ^ 63) && decide (x ≠ nanBits)
def Rd.or (r : Rd) (b : Bool) : Rd := { r with bad := r.bad || b }
def const1 (r : Rd) (ks : List V) : Rd × List V := if (takeP r 8).1.bad then ((takeP r 8).1, ks) else ((takeP r 8).1.or (badN (le8 (takeP r 8).2)), ks ++ [numV (le8 (takeP r 8).2)])
def const2 (r : Rd) (l : Nat) (ks : List V) : Rd × List V := ((takeP (r.or (decide (40 < l))) l).1, ks ++ [str (takeP (r.or (decide (40 < l))) l).2])
def constP (r : Rd) (ks : List V) : Rd × List V :=
  if (u8P r).2 = 1 then const1 (u8P r).1 ks
  else if (u8P r).2 = 2 then const2 (u8P (u8P r).1).1 (u8P (u8P r).1).2 ks
  else ((u8P r).1.spoil, ks)
/-- The upvalues' descriptions: at most n; the last part: proto came back at once. -/
def descsF : Nat → Rd → List (Nat × Nat) → Rd × List (Nat × Nat) × Bool
  | 0, r, ds => (r, ds, false)
  | n + 1, r, ds => if r.bad then (r, ds, false) else if (takeP r 2).1.bad = true ∨ 1 < byte (takeP r 2).2 0 then ((takeP r 2).1.spoil, ds, true) else descsF n (takeP r 2).1 (ds ++ [(byte (takeP r 2).2 0, byte (takeP r 2).2 1)])
def constsF : Nat → Rd → List V → Rd × List V
  | 0, r, ks => (r, ks)
  | n + 1, r, ks => if r.bad then (r, ks) else constsF n (constP r ks).1 (constP r ks).2
def codeF : Nat → Rd → List (Nat × Nat) → Rd × List (Nat × Nat) × Bool
  | 0, r, co => (r, co, false)
  | n + 1, r, co => if r.bad then (r, co, false) else if (takeP r 3).1.bad then ((takeP r 3).1, co, true) else codeF n (takeP r 3).1 (co ++ [(byte (takeP r 3).2 0, byte (takeP r 3).2 1 + 256 * byte (takeP r 3).2 2)])
def badH (np ns : Nat) : Bool := decide (3 < np ∨ ns < np ∨ 12 < ns)
/-- The third part of a proto: the code; M: behind the constants. -/
def protoC (p : Pr) (r : Rd) (M : Mc) : Rd × Mc :=
  if (codeF (u16P r).2 (u16P r).1 M.co).2.2 then ((codeF (u16P r).2 (u16P r).1 M.co).1, { M with co := (codeF (u16P r).2 (u16P r).1 M.co).2.1 })
  else ((codeF (u16P r).2 (u16P r).1 M.co).1, { M with co := (codeF (u16P r).2 (u16P r).1 M.co).2.1, pr := M.pr ++ [{ p with nc := (u16P r).2 }] })
/-- The second part: the constants. -/
def protoB (p : Pr) (r : Rd) (M : Mc) : Rd × Mc :=
  protoC { p with nk := (u16P r).2 } (constsF (u16P r).2 (u16P r).1 M.ks).1 { M with ks := (constsF (u16P r).2 (u16P r).1 M.ks).2 }
/-- The first part: the descriptions. -/
def protoA (p : Pr) (r : Rd) (M : Mc) : Rd × Mc :=
  if (descsF p.nup r M.ds).2.2 then ((descsF p.nup r M.ds).1, { M with ds := (descsF p.nup r M.ds).2.1 })
  else protoB p (descsF p.nup r M.ds).1 { M with ds := (descsF p.nup r M.ds).2.1 }
def headP (M : Mc) (h : List UInt8) : Pr := ⟨byte h 0, byte h 1, M.ds.length, byte h 2, M.ks.length, 0, M.co.length, 0⟩
def protoP (r : Rd) (M : Mc) : Rd × Mc :=
  if (takeP r 3).1.bad then ((takeP r 3).1, M)
  else protoA (headP M (takeP r 3).2) ((takeP r 3).1.or (badH (byte (takeP r 3).2 0) (byte (takeP r 3).2 1))) M
def protosF : Nat → Rd → Mc → Rd × Mc
  | 0, r, M => (r, M)
  | n + 1, r, M => if r.bad then (r, M) else protosF n (protoP r M).1 (protoP r M).2
def rd0 (bs : List UInt8) : Rd := ⟨bs, 0, false⟩
def decodeP (M : Mc) (bs : List UInt8) : Mc × Bool :=
  if (u8P (rd0 bs)).2 < 1 ∨ 13 < (u8P (rd0 bs)).2 then (M, false)
  else if (protosF (u8P (rd0 bs)).2 (u8P (rd0 bs)).1 M).1.bad = true ∨ (protosF (u8P (rd0 bs)).2 (u8P (rd0 bs)).1 M).1.i ≠ bs.length then ((protosF (u8P (rd0 bs)).2 (u8P (rd0 bs)).1 M).2, false)
  else ((protosF (u8P (rd0 bs)).2 (u8P (rd0 bs)).1 M).2, decide (((protosF (u8P (rd0 bs)).2 (u8P (rd0 bs)).1 M).2.pr[0]?.getD dP).np = 0) && decide (((protosF (u8P (rd0 bs)).2 (u8P (rd0 bs)).1 M).2.pr[0]?.getD dP).nup = 0))
end Go.Proofs.Qxb6500293aGreatRR
