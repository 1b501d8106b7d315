/-
  THE MACHINE, PLAIN: what each of its functions does (no Go in sight).
-/
import Derived.Test.Qxb6500293aGreatRRX0
import Derived.Test.Qxb6500293aGreatRRN9
import Derived.Test.Qxb6500293aGreatRRW5
namespace Go.Proofs.Qxb6500293aGreatRR
set_option linter.unusedVariables false

def dF : Fr := ⟨0, 0, 0, 0, false⟩
def dC : Cs := ⟨0, 0, 0⟩
def dP : Pr := ⟨0, 0, 0, 0, 0, 0, 0, 0⟩
def dX : Ce := ⟨-1, 0, nilV⟩
def Mc.t (M : Mc) (i : Nat) : Th := M.th[i]?.getD dT
def Mc.c (M : Mc) (c : Nat) : Cs := M.cs[c]?.getD dC
def Mc.p (M : Mc) (c : Nat) : Pr := M.pr[(M.c c).p]?.getD dP
def Mc.x (M : Mc) (c : Nat) : Ce := M.ce[c]?.getD dX
def Mc.setT (M : Mc) (i : Nat) (t : Th) : Mc := { M with th := M.th.set i t }
def Th.f (t : Th) : Fr := t.fr[t.fr.length - 1]?.getD dF
def Th.setF (t : Th) (f : Fr) : Th := { t with fr := t.fr.set (t.fr.length - 1) f }
/-- An event. -/
structure Ev where
  K : Nat
  h : Nat
  E : Int
  v : V
  w : V
def noEv : Ev := ⟨0, 0, 0, nilV, nilV⟩
/-- How a function ends: 0 it answers x · 2 it throws v · 3 it stops the machine with e. -/
structure Ou (α : Type) where
  k : Nat
  M : Mc
  x : α
  v : V
  e : Int
def ok {α : Type} (M : Mc) (x : α) : Ou α := ⟨0, M, x, nilV, 0⟩
def thr {α : Type} (M : Mc) (d : α) (v : V) : Ou α := ⟨2, M, d, v, 0⟩
def trp {α : Type} (M : Mc) (d : α) (e : Int) : Ou α := ⟨3, M, d, nilV, e⟩
/-- One behind the other. -/
def Ou.then {α β : Type} (o : Ou α) (d : β) (g : Mc → α → Ou β) : Ou β := if o.k = 0 then g o.M o.x else ⟨o.k, o.M, d, o.v, o.e⟩
def str (s : List UInt8) : V := ⟨3, 0, s⟩
def boolV (b : Bool) : V := ⟨1, if b then 1 else 0, []⟩
def numV (N : Nat) : V := ⟨2, N, []⟩
def truthy (v : V) : Bool := if v.T = 0 then false else decide (v.T ≠ 1 ∨ v.N ≠ 0)
def nanBits : Nat := 9221120237041090561
/-- valid. -/
def validP (M : Mc) (v : V) : Bool :=
  wfB v && (if v.T = 2 then decide (¬ 2047 * 2 ^ 52 < v.N % 2 ^ 63 ∨ v.N = nanBits)
    else if v.T = 4 then decide (v.N < M.tb.length)
    else if v.T = 5 then decide (v.N < M.cs.length)
    else if v.T = 7 then decide (v.N < M.th.length)
    else true)
def wipeP (M : Mc) (e : Int) : Mc := { M with pr := [], ds := [], ks := [], co := [], cs := [], ux := [], ce := [], th := [], en := e }
def pushP (M : Mc) (i : Nat) (vs : List V) : Mc := M.setT i { M.t i with sk := (M.t i).sk ++ vs }
def topP (M : Mc) (i : Nat) : V := (M.t i).sk[(M.t i).sk.length - 1]?.getD nilV
def dropP (M : Mc) (i : Nat) : Mc := M.setT i { M.t i with sk := (M.t i).sk.take ((M.t i).sk.length - 1) }
def cutP (M : Mc) (i n : Nat) : Mc := M.setT i { M.t i with sk := (M.t i).sk.take n }
def burnP (M : Mc) : Ou Unit := if M.fuel = 0 then trp M () 9 else ok { M with fuel := M.fuel - 1 } ()
def setPc (M : Mc) (i x : Nat) : Mc := M.setT i ((M.t i).setF { (M.t i).f with pc := x })
def jumpP (M : Mc) (i x : Nat) : Ou Unit := (if x ≤ (M.t i).f.pc then burnP M else ok M ()).then () fun M _ => ok (setPc M i x) ()
/-- closeFrom: the open list from its end; each cell at or above 'at' is closed. -/
def closeF (sk : List V) (at' : Nat) : List Nat → List Ce → List Nat × List Ce
  | [], ce => ([], ce)
  | c :: r, ce => if (ce[c]?.getD dX).at' < at' then (c :: r, ce) else closeF sk at' r (ce.set c ⟨-1, 0, sk[(ce[c]?.getD dX).at']?.getD nilV⟩)
def closeP (M : Mc) (i at' : Nat) : Mc :=
  let o := closeF (M.t i).sk at' (M.t i).op.reverse M.ce
  { M.setT i { M.t i with op := o.1.reverse } with ce := o.2 }
def killP (M : Mc) (i : Nat) : Mc :=
  let M := closeP M i 0
  M.setT i { M.t i with sk := [], fr := [], st := 5 }
/-- unwind: (event, done). -/
def unwF (M : Mc) (i : Nat) (v : V) : Nat → Mc × Ev × Bool
  | 0 => (killP M i, ⟨2, 0, 0, v, nilV⟩, true)
  | n + 1 => if ((M.t i).fr[n + 1]?.getD dF).prot then
      let f := (M.t i).fr[n + 1]?.getD dF
      let M := closeP M i f.base
      let M := M.setT i { M.t i with sk := (M.t i).sk.take f.ret ++ [boolV false, v], fr := (M.t i).fr.take (n + 1) }
      (M, noEv, false)
    else unwF M i v n
def unwP (M : Mc) (i : Nat) (v : V) : Mc × Ev × Bool := unwF M i v ((M.t i).fr.length - 1)
def slot (M : Mc) (i x : Nat) : V := (M.t i).sk[(M.t i).f.base + x]?.getD nilV
def setSlot (M : Mc) (i x : Nat) (v : V) : Mc := M.setT i { M.t i with sk := (M.t i).sk.set ((M.t i).f.base + x) v }
/-- effect: the operands that an instruction needs, and by how many the stack grows. -/
def effP (op x : Nat) : Int × Int :=
  if op = 26 then ((x : Int) + 1, 1 - (x : Int))
  else if op = 1 ∨ op = 2 ∨ op = 3 ∨ op = 4 ∨ op = 5 ∨ op = 7 ∨ op = 9 ∨ op = 14 ∨ op = 28 ∨ op = 31 ∨ op = 32 then (0, 1)
  else if op = 6 ∨ op = 8 ∨ op = 10 ∨ op = 22 ∨ op = 25 then (1, -1)
  else if op = 23 ∨ op = 24 ∨ op = 18 ∨ op = 19 ∨ op = 20 then (1, 0)
  else if op = 11 ∨ op = 15 ∨ op = 16 ∨ op = 17 ∨ op = 13 then (2, -1)
  else if op = 27 then (2, -2)
  else if op = 12 then (3, -3)
  else (0, 0)
def descOk (ns nup : Nat) (d : Nat × Nat) : Bool := !((decide (d.1 = 1) && decide (ns ≤ d.2)) || (decide (d.1 = 0) && decide (nup ≤ d.2)))
/-- sound. -/
def soundP (M : Mc) (i op x : Nat) : Bool :=
  let f := (M.t i).f
  let p := M.p f.clo
  let nup := (M.c f.clo).nup
  if op = 1 then decide (x < p.nk)
  else if op = 9 ∨ op = 10 then decide (x < p.nk) && decide ((M.ks[p.k + x]?.getD nilV).T = 3)
  else if op = 5 ∨ op = 6 then decide (x < p.ns)
  else if op = 7 ∨ op = 8 then decide (x < nup)
  else if op = 15 ∨ op = 16 then decide (1 ≤ x) && decide (x ≤ 6)
  else if op = 21 ∨ op = 22 ∨ op = 23 ∨ op = 24 then decide (x < p.nc)
  else if op = 26 then decide (x ≤ 3)
  else if op = 29 then decide (x ≤ p.ns)
  else if op = 30 ∨ op = 32 then decide (x + 3 < p.ns)
  else if op = 31 then decide (x + 3 < p.ns) && (decide ((slot M i x).T = 2) && (decide ((slot M i (x + 1)).T = 2) && decide ((slot M i (x + 2)).T = 2)))
  else if op = 28 then decide (x < M.pr.length) && ((M.ds.drop (M.pr[x]?.getD dP).up).take (M.pr[x]?.getD dP).nup).all (descOk p.ns nup)
  else decide (1 ≤ op) && decide (op ≤ 32)
end Go.Proofs.Qxb6500293aGreatRR
