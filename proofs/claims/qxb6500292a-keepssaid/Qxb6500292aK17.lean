/-
  Kept's world: the real side, the ghost, the registers; and its own boxes.
-/
import Derived.Test.Qxb6500292aK16
import Derived.Test.Qxb6500292aK14
import Derived.Test.Qxb6500292aK10
import Derived.Test.Qxb6500292aK8
import Derived.Test.Qxb6500292aK6
import Derived.Test.Qxb6500292aD4
namespace Go.Proofs.Qxb6500292a
open Go.RowKit
open Ieee (double)
set_option linter.unusedVariables false
set_option linter.unusedSimpArgs false

structure Ke (own : Nat → Nat) (W : World) (x g rb : Nat) (sr sg : List Tbl) (gs : Gs) (k v : V) : Prop where
  rs : RS own W x sr
  gh : GhAt own W g sg gs
  rg : RegAt W rb k v
  rc : own rb = 200
section
variable {own own' : Nat → Nat} {W W' : World} {x g rb : Nat} {sr sg : List Tbl} {gs : Gs} {k v : V}
theorem Ke.below (h : Ke own W x g rb sr sg gs k v) (hb : Below W.heap.size W W') : Ke own W' x g rb sr sg gs k v :=
  ⟨h.rs.below hb, h.gh.below hb, h.rg.same (hb.block _ h.rg.lt), h.rc⟩
theorem Ke.recol (h : Ke own W x g rb sr sg gs k v) (ho : ∀ j, j < W.heap.size → own' j = own j) : Ke own' W x g rb sr sg gs k v :=
  ⟨h.rs.kept (Nat.le_refl _) (fun _ _ _ _ => rfl) ho, h.gh.kept (fun _ _ _ _ => rfl) ho, h.rg, (ho _ h.rg.lt).trans h.rc⟩
theorem Ke.cut (h : Ke own W x g rb sr sg gs k v) {n : Nat} (hn : W.heap.size ≤ n) : Ke (cut own n) W x g rb sr sg gs k v := h.recol (fun j hj => cut_low (by omega))
/-- The boxes. -/
def Bx (W : World) (L : List (Nat × Obj)) : Prop := ∀ e ∈ L, W.heap[e.1]? = some e.2
def Col (own : Nat → Nat) (L : List (Nat × Obj)) : Prop := ∀ e ∈ L, own e.1 = 0
theorem Bx.lt {L : List (Nat × Obj)} (h : Bx W L) {e : Nat × Obj} (he : e ∈ L) : e.1 < W.heap.size := (Array.getElem?_eq_some_iff.1 (h e he)).1
theorem Bx.kept {L : List (Nat × Obj)} (h : Bx W L) (hk : ∀ e ∈ L, W'.heap[e.1]? = W.heap[e.1]?) : Bx W' L := fun e he => (hk e he).trans (h e he)
theorem Bx.below {L : List (Nat × Obj)} (h : Bx W L) (hb : Below W.heap.size W W') : Bx W' L := h.kept fun e he => hb.block _ (h.lt he)
theorem Bx.add {L : List (Nat × Obj)} (h : Bx W L) (o : Obj) : Bx (W.alloc o) ((W.heap.size, o) :: L) := by
  intro e he
  rcases List.mem_cons.1 he with rfl | he
  · exact World.alloc_heap_new _ _
  · exact h.below (below_one _ _) e he
theorem Bx.nil : Bx W [] := fun e he => by cases he
/-- What Do leaves. -/
theorem Ke.done (h : Ke own W x g rb sr sg gs k v) {o : Out} (hd : DoEndr own W x rb o W') : ∃ own', (∀ j, j < W.heap.size → own' j = own j) ∧ Ke own' W' x g rb o.st sg gs o.k o.v ∧ (W'.os = W.os ∧ W'.tape = W.tape ∧ W'.output = W.output ∧ W.heap.size ≤ W'.heap.size ∧ ∀ j, j < W.heap.size → ¬ (1 ≤ own j ∧ own j < 100) → own j ≠ 200 → W'.heap[j]? = W.heap[j]?) := by
  obtain ⟨own', h1, h2, h3, h4⟩ := hd
  refine ⟨own', h1, ⟨h2, ?_, h3, (h1 _ h.rg.lt).trans h.rc⟩, h4⟩
  exact h.gh.kept (fun j hj a b => h4.2.2.2.2 j hj (by omega) (by omega)) h1
/-- What Turn leaves. -/
theorem Ke.turned (h : Ke own W x g rb sr sg gs k v) {st' : List Tbl} {gs' : Gs} (hd : GEnd own W g st' gs' W') : ∃ own', (∀ j, j < W.heap.size → own' j = own j) ∧ Ke own' W' x g rb sr st' gs' k v ∧ ChgG own W W' := by
  obtain ⟨own', h1, h2, h3⟩ := hd
  refine ⟨own', h1, ⟨h.rs.kept h3.size (fun j hj a b => h3.block j hj (by omega)) h1, h2, h.rg.same (h3.block _ h.rg.lt (by rw [h.rc]; omega)), (h1 _ h.rg.lt).trans h.rc⟩, h3⟩
end
/-- What a step of the law may turn. -/
structure ChgK (own : Nat → Nat) (w w' : World) : Prop where
  os : w'.os = w.os
  tape : w'.tape = w.tape
  output : w'.output = w.output
  size : w.heap.size ≤ w'.heap.size
  block : ∀ j, j < w.heap.size → own j = 0 → w'.heap[j]? = w.heap[j]?
theorem ChgK.of_below {own : Nat → Nat} {w w' : World} (h : Below w.heap.size w w') : ChgK own w w' := ⟨h.os, h.tape, h.output, h.size, fun j hj _ => h.block j hj⟩
theorem ChgK.trans {own own' : Nat → Nat} {w w1 w2 : World} (h : ChgK own w w1) (k : ChgK own' w1 w2) (ho : ∀ j, j < w.heap.size → own' j = own j) : ChgK own w w2 :=
  ⟨k.os.trans h.os, k.tape.trans h.tape, k.output.trans h.output, Nat.le_trans h.size k.size, fun j hj e => (k.block j (Nat.lt_of_lt_of_le hj h.size) ((ho j hj).trans e)).trans (h.block j hj e)⟩
theorem ChgK.below {own : Nat → Nat} {w w1 w2 : World} (h : ChgK own w w1) (hb : Below w1.heap.size w1 w2) : ChgK own w w2 := h.trans (own' := own) (ChgK.of_below hb) (fun _ _ => rfl)
theorem oneV_ok {k : V} (h : k.Ok) : (oneV k).Ok := by
  unfold oneV
  split
  · exact ⟨h.T1, h.T2, by show 0 < _; omega, h.S⟩
  · exact h
/-- An error turns nothing. -/
theorem err_same (st : List Tbl) (k v : V) (K A B : Int) (S : List UInt8) (hE : (doP st k v K A B S).E ≠ 0) : (doP st k v K A B S).st = st := by
  unfold doP at hE ⊢
  by_cases g1 : K = 1
  · rw [if_pos g1]
  rw [if_neg g1] at hE ⊢
  by_cases g2 : K = 2
  · rw [if_pos g2]
  rw [if_neg g2] at hE ⊢
  by_cases g3 : K = 3
  · rw [if_pos g3] at hE ⊢
    simp only at hE ⊢
    unfold makeP at hE ⊢
    split at hE
    · rename_i c; rw [if_pos c]
    · exact absurd rfl hE
  rw [if_neg g3] at hE ⊢
  by_cases g4 : K = 4
  · rw [if_pos g4] at hE; exact absurd rfl hE
  rw [if_neg g4] at hE ⊢
  by_cases g5 : K = 5
  · rw [if_pos g5]
  rw [if_neg g5] at hE ⊢
  by_cases g6 : K = 6
  · rw [if_pos g6]
  rw [if_neg g6] at hE ⊢
  by_cases g7 : K = 7
  · rw [if_pos g7] at hE ⊢
    simp only at hE ⊢
    unfold setP at hE ⊢
    split
    · rfl
    split
    · rfl
    split
    · rfl
    split
    · rfl
    rename_i c1 c2 c3 c4
    rw [if_neg c1, if_neg c2, if_neg c3, if_neg c4] at hE
    unfold setT at hE ⊢
    split
    · rename_i p hp; rw [hp] at hE; exact absurd rfl hE
    · rename_i hp
      rw [hp] at hE
      simp only at hE
      split
      · rfl
      split
      · rfl
      · rename_i d1 d2
        rw [if_neg d1, if_neg d2] at hE
        exact absurd rfl hE
  rw [if_neg g7] at hE ⊢
  split
  · rfl
  split
  · rfl
  split
  · rfl
  split
  · rfl
  split <;> rfl
/-- Where nothing turns. -/
theorem quiet_same {st : List Tbl} {gs : Gs} (H : GRel st gs) (hG : GoodSt st) (k v : V) (K A B : Int) (S : List UInt8) (h3 : K ≠ 3) (h4 : K ≠ 4) (h7 : K = 7 → findG gs A (oneV k) = none ∧ v.T = 0) : (doP st k v K A B S).st = st := by
  by_cases hE : (doP st k v K A B S).E = 0
  · by_cases c : K = 7
    · subst c
      obtain ⟨hf, hz⟩ := h7 rfl
      have e2 : (doP st k v 7 A B S).E = (setP st A k v).2 := rfl
      show (setP st A k v).1 = st
      rw [e2] at hE
      unfold setP at hE ⊢
      by_cases hA : A < 0 ∨ (st.length : Int) ≤ A
      · rw [if_pos hA]
      rw [if_neg hA] at hE ⊢
      by_cases hw : wfB k = false ∨ wfB v = false
      · rw [if_pos hw]
      rw [if_neg hw] at hE ⊢
      by_cases h0 : k.T = 0
      · rw [if_pos h0]
      rw [if_neg h0] at hE ⊢
      by_cases hn : k.T = 2 ∧ 2047 * 2 ^ 52 < k.N % 2 ^ 63
      · rw [if_pos hn]
      rw [if_neg hn] at hE ⊢
      have hwv : wfB v = true := by cases hh : wfB v; exact absurd (.inr hh) hw; rfl
      obtain ⟨t, a, ht, hgd, hinv, hat⟩ := at_idx H hG hA (oneV k)
      unfold setT
      rw [hgd, hat.1 hf]
      simp only [nilT hwv, decide_eq_true hz, if_true]
    · unfold doP
      rw [if_neg h3, if_neg h4, if_neg c]
      split
      · rfl
      split
      · rfl
      split
      · rfl
      split
      · rfl
      split
      · rfl
      split
      · rfl
      split
      · rfl
      split
      · rfl
      split <;> rfl
  · exact err_same st k v K A B S hE
end Go.Proofs.Qxb6500292a
