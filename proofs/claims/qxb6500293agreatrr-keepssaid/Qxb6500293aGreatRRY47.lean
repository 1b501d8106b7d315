/-
  call, plain: an answer is an answer.
-/
import Derived.Test.Qxb6500293aGreatRRY46
namespace Go.Proofs.Qxb6500293aGreatRR
set_option linter.unusedVariables false

def Cl {α : Type} (o : Ou α) : Prop := o.k = 0 → o = ok o.M o.x
section
variable {α β : Type} {M : Mc}
theorem Cl.ok (x : α) : Cl (Go.Proofs.Qxb6500293aGreatRR.ok M x) := fun _ => rfl
theorem Cl.thr (d : α) (v : V) : Cl (Go.Proofs.Qxb6500293aGreatRR.thr M d v) := fun h => absurd (show (2 : Nat) = 0 from h) (by decide)
theorem Cl.trp (d : α) (e : Int) : Cl (Go.Proofs.Qxb6500293aGreatRR.trp M d e) := fun h => absurd (show (3 : Nat) = 0 from h) (by decide)
theorem Cl.ite {c : Prop} [Decidable c] {a b : Ou α} (h1 : Cl a) (h2 : Cl b) : Cl (if c then a else b) := by
  split
  · exact h1
  · exact h2
theorem Cl.then {o : Ou α} {d : β} {F : Mc → α → Ou β} (h : ∀ M x, Cl (F M x)) : Cl (o.then d F) := by
  unfold Ou.then
  split
  · exact h _ _
  · rename_i hk
    intro h0
    exact absurd h0 hk
end
theorem callB_cl (M : Mc) (i x : Nat) : Cl (callB M i x) := by
  unfold callB
  simp only
  exact Cl.ite (Cl.ite (Cl.thr _ _) (Cl.ok _)) (Cl.ite (Cl.thr _ _) (Cl.ite (Cl.ite (Cl.ok _) (Cl.ok _)) (Cl.ite (Cl.ite (Cl.thr _ _) (Cl.ite (Cl.ok _) (Cl.ok _))) (Cl.ite (Cl.ite (Cl.thr _ _) (Cl.ok _)) (Cl.then (fun _ _ => Cl.ok _))))))
theorem callP_cl (M : Mc) (i x : Nat) : Cl (callP M i x) := Cl.then (fun _ _ => callB_cl _ _ _)
end Go.Proofs.Qxb6500293aGreatRR
