import Derived.Test.Qxb6500293aGreatRRU3
namespace Go.Proofs.Qxb6500293aGreatRR
open Go.RowKit
open Ieee (double)
set_option linter.unusedVariables false
set_option linter.unusedSimpArgs false

/-- Nothing but the model's blocks has turned. -/
structure ChgM (own : Nat → Nat) (w w' : World) : Prop where
  os : w'.os = w.os
  tape : w'.tape = w.tape
  output : w'.output = w.output
  size : w.heap.size ≤ w'.heap.size
  block : ∀ k, k < w.heap.size → ¬ (101 ≤ own k ∧ own k < 130) → w'.heap[k]? = w.heap[k]?
theorem ChgM.of_below {own : Nat → Nat} {w w' : World} (h : Below w.heap.size w w') : ChgM own w w' := ⟨h.os, h.tape, h.output, h.size, fun k hk _ => h.block k hk⟩
theorem RealAt.kept {own own' : Nat → Nat} {w w' : World} {x : Nat} {reps : List TabR} {count : Nat} (H : RealAt own w x reps count) (hs : w.heap.size ≤ w'.heap.size) (hk : ∀ k, k < w.heap.size → 1 ≤ own k → own k < 100 → w'.heap[k]? = w.heap[k]?) (ho : ∀ k, k < w.heap.size → own' k = own k) : RealAt own' w' x reps count := by
  obtain ⟨nb, vt, h1, h2, h3⟩ := H.tabs
  have hm := H.max
  refine ⟨⟨nb, vt, h1.kept (hk _ h1.lt (by rw [H.xc]; omega) (by rw [H.xc]; omega)) hs, ownsRow_block h2 (fun g hg => hk g (ownsRow_lt h2 g hg) (by rw [h3 g hg]; omega) (by rw [h3 g hg]; omega)), fun g hg => (ho g (ownsRow_lt h2 g hg)).trans (h3 g hg)⟩, (ho x h1.lt).trans H.xc, ?_, H.cnt, H.max, H.wiped⟩
  intro h r hr
  have hh : h < reps.length := (List.getElem?_eq_some_iff.1 hr).1
  exact ⟨(H.rep h r hr).1.kept (fun k hk' e1 e2 => hk k hk' (by omega) (by omega)) ho, (H.rep h r hr).2⟩
theorem RealAt.chgM {own own' : Nat → Nat} {w w' : World} {x : Nat} {reps : List TabR} {count : Nat} (H : RealAt own w x reps count) (hc : ChgM own w w') (ho : ∀ k, k < w.heap.size → own' k = own k) : RealAt own' w' x reps count :=
  H.kept hc.size (fun k hk h1 h2 => hc.block k hk (by omega)) ho
theorem ModAt.chg {own own' : Nat → Nat} {w w' : World} {y : Nat} {st : List Tbl} (H : ModAt own w y st) (hc : Chg own w w') (ho : ∀ k, k < w.heap.size → own' k = own k) : ModAt own' w' y st :=
  H.kept hc.size (fun k hk h1 h2 => hc.block k hk (by omega)) ho
theorem ModS.setVt {w : World} {y : Nat} {np vt : Value} (h : ModS w y np vt) (v : Value) : ModS (w.setCell ⟨y, 1, none⟩ v) y np v :=
  ⟨(World.cell?_setCell_other _ _ _ _ (by intro e; injection e; omega)).trans h.c0, World.cell?_setCell_same' _ _ _ (by rw [h.c1]; rfl), fun j => (World.frozen?_setCell _ _ _ _).trans (h.fz j), by have := h.lt; simpa using this⟩
/-- What a step of the model leaves. -/
def MEnd (own : Nat → Nat) (w : World) (y : Nat) (st' : List Tbl) (w' : World) : Prop := ∃ own', (∀ k, k < w.heap.size → own' k = own k) ∧ ModAt own' w' y st' ∧ ChgM own w w'
theorem MEnd.same {own : Nat → Nat} {w w' : World} {y : Nat} {st : List Tbl} (H : ModAt own w y st) (hb : Below w.heap.size w w') : MEnd own w y st w' := ⟨own, fun _ _ => rfl, H.below hb, ChgM.of_below hb⟩
/-- What Make answers. -/
def makeP (st : List Tbl) : Int × Int × List Tbl := if 12 ≤ st.length then (-1, 8, st) else ((st.length : Int), 0, st ++ [[]])
end Go.Proofs.Qxb6500293aGreatRR
