/-
  ONE WALK IN SEVERAL THEOREMS: what is left open stands as fields.
-/
import Derived.Test.Qxb6500293aGreatRRProg
namespace Go.Proofs.Qxb6500293aGreatRR
structure Bx (p : Prop) : Type where
  out : p
structure Sp1 (G : Prop) : Type where
  a1 : Prop
  go : Bx a1 → G
structure Sp2 (G : Prop) : Type where
  a1 : Prop
  a2 : Prop
  go : Bx a1 → Bx a2 → G
structure Sp3 (G : Prop) : Type where
  a1 : Prop
  a2 : Prop
  a3 : Prop
  go : Bx a1 → Bx a2 → Bx a3 → G
structure Sp4 (G : Prop) : Type where
  a1 : Prop
  a2 : Prop
  a3 : Prop
  a4 : Prop
  go : Bx a1 → Bx a2 → Bx a3 → Bx a4 → G
structure Sp5 (G : Prop) : Type where
  a1 : Prop
  a2 : Prop
  a3 : Prop
  a4 : Prop
  a5 : Prop
  go : Bx a1 → Bx a2 → Bx a3 → Bx a4 → Bx a5 → G
structure Sp6 (G : Prop) : Type where
  a1 : Prop
  a2 : Prop
  a3 : Prop
  a4 : Prop
  a5 : Prop
  a6 : Prop
  go : Bx a1 → Bx a2 → Bx a3 → Bx a4 → Bx a5 → Bx a6 → G
structure Sp7 (G : Prop) : Type where
  a1 : Prop
  a2 : Prop
  a3 : Prop
  a4 : Prop
  a5 : Prop
  a6 : Prop
  a7 : Prop
  go : Bx a1 → Bx a2 → Bx a3 → Bx a4 → Bx a5 → Bx a6 → Bx a7 → G
structure Sp8 (G : Prop) : Type where
  a1 : Prop
  a2 : Prop
  a3 : Prop
  a4 : Prop
  a5 : Prop
  a6 : Prop
  a7 : Prop
  a8 : Prop
  go : Bx a1 → Bx a2 → Bx a3 → Bx a4 → Bx a5 → Bx a6 → Bx a7 → Bx a8 → G
structure Sp9 (G : Prop) : Type where
  a1 : Prop
  a2 : Prop
  a3 : Prop
  a4 : Prop
  a5 : Prop
  a6 : Prop
  a7 : Prop
  a8 : Prop
  a9 : Prop
  go : Bx a1 → Bx a2 → Bx a3 → Bx a4 → Bx a5 → Bx a6 → Bx a7 → Bx a8 → Bx a9 → G
end Go.Proofs.Qxb6500293aGreatRR
