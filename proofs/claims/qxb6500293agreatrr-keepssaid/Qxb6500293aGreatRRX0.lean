/-
  THE MACHINE, PLAIN (no Go in sight): its parts, and how each lies in cells.
-/
import Derived.Test.Qxb6500293aGreatRRR2
namespace Go.Proofs.Qxb6500293aGreatRR
set_option linter.unusedVariables false

structure Fr where
  clo : Nat
  pc : Nat
  base : Nat
  ret : Nat
  prot : Bool
structure Th where
  st : Nat
  fn : Nat
  sk : List V
  fr : List Fr
  op : List Nat
structure Ce where
  th : Int
  at' : Nat
  v : V
structure Cs where
  p : Nat
  up : Nat
  nup : Nat
structure Pr where
  np : Nat
  ns : Nat
  up : Nat
  nup : Nat
  k : Nat
  nk : Nat
  co : Nat
  nc : Nat
structure Mc where
  pr : List Pr
  ds : List (Nat × Nat)
  ks : List V
  co : List (Nat × Nat)
  cs : List Cs
  ux : List Nat
  ce : List Ce
  th : List Th
  fuel : Nat
  out : List UInt8
  en : Int
  tb : List Tbl
abbrev i64 (n : Nat) : Value := .int .i64 (n : Int)
def valC (v : V) : List Value := [.int .i64 v.T, .int .u64 (v.N : Int), .string ⟨v.S.toArray⟩]
def prC (p : Pr) : List Value := [i64 p.np, i64 p.ns, i64 p.up, i64 p.nup, i64 p.k, i64 p.nk, i64 p.co, i64 p.nc]
def dsC (d : Nat × Nat) : List Value := [.int .u8 (d.1 : Int), .int .u8 (d.2 : Int)]
def coC (d : Nat × Nat) : List Value := [.int .u8 (d.1 : Int), .int .u16 (d.2 : Int)]
def csC (c : Cs) : List Value := [i64 c.p, i64 c.up, i64 c.nup]
def ixC (n : Nat) : List Value := [i64 n]
def ceC (c : Ce) : List Value := .int .i64 c.th :: i64 c.at' :: valC c.v
def frC (f : Fr) : List Value := [i64 f.clo, i64 f.pc, i64 f.base, i64 f.ret, .bool f.prot]
def byC (b : UInt8) : List Value := [.int .u8 (b.toNat : Int)]
/-- A row of the machine: the elements' type, how many cells each takes, how many there are, their cells. -/
structure Row where
  ty : TypeId
  sz : Nat
  n : Nat
  xs : List Value
def rowOf {α : Type} (ty : TypeId) (sz : Nat) (f : α → List Value) (l : List α) : Row := ⟨ty, sz, l.length, l.flatMap f⟩
def dT : Th := ⟨0, 0, [], [], []⟩
/-- Row j: 0 .. 7 the machine's own; 8 + 3 i, 9 + 3 i, 10 + 3 i: thread i's stack, frames, open cells. -/
def rowM (M : Mc) (L : List Th) (j : Nat) : Row :=
  if j = 0 then rowOf 91 8 prC M.pr
  else if j = 1 then rowOf 165 2 dsC M.ds
  else if j = 2 then rowOf 33 3 valC M.ks
  else if j = 3 then rowOf 169 2 coC M.co
  else if j = 4 then rowOf 69 3 csC M.cs
  else if j = 5 then rowOf 3 1 ixC M.ux
  else if j = 6 then rowOf 95 5 ceC M.ce
  else if j = 7 then rowOf 5 1 byC M.out
  else if (j - 8) % 3 = 0 then rowOf 33 3 valC (L[(j - 8) / 3]?.getD dT).sk
  else if (j - 8) % 3 = 1 then rowOf 71 5 frC (L[(j - 8) / 3]?.getD dT).fr
  else rowOf 3 1 ixC (L[(j - 8) / 3]?.getD dT).op
/-- Where row j's slice lies: in the machine's block m, or in the threads' arena a. -/
def locM (m a j : Nat) : Addr :=
  if j < 7 then ⟨m, 2 + j, none⟩
  else if j = 7 then ⟨m, 11, none⟩
  else ⟨a, (j - 8) / 3 * 5 + 2 + (j - 8) % 3, none⟩
end Go.Proofs.Qxb6500293aGreatRR
