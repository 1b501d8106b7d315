import Derived.Test.Qxb6500293aGreatRRT12
import Derived.Deep.RegionLaw
namespace Go.Proofs.Qxb6500293aGreatRR
open Go.RowKit
open Ieee (double)
set_option linter.unusedVariables false
set_option linter.unusedSimpArgs false

/-- Nothing but the real side's blocks has turned. -/
structure Chg (own : Nat → Nat) (w w' : World) : Prop where
  os : w'.os = w.os
  tape : w'.tape = w.tape
  output : w'.output = w.output
  size : w.heap.size ≤ w'.heap.size
  block : ∀ k, k < w.heap.size → ¬ (1 ≤ own k ∧ own k < 100) → w'.heap[k]? = w.heap[k]?
theorem Chg.of_below {own : Nat → Nat} {w w' : World} (h : Below w.heap.size w w') : Chg own w w' := ⟨h.os, h.tape, h.output, h.size, fun k hk _ => h.block k hk⟩
theorem Chg.trans {own own' : Nat → Nat} {x y z : World} (h : Chg own x y) (k : Chg own' y z) (ho : ∀ k, k < x.heap.size → own' k = own k) : Chg own x z :=
  ⟨k.os.trans h.os, k.tape.trans h.tape, k.output.trans h.output, Nat.le_trans h.size k.size, fun i hi hn => (k.block i (Nat.lt_of_lt_of_le hi h.size) (by rw [ho i hi]; exact hn)).trans (h.block i hi hn)⟩
theorem Chg.of_only {own : Nat → Nat} {A h : Nat} {w w' : World} (hO : Only own A h w w') (hA : own A = 2) (hh : h < 12) : Chg own w w' :=
  ⟨hO.os, hO.tape, hO.output, hO.size, fun k hk hn => hO.block k hk (by rintro rfl; omega) (by omega)⟩
theorem tabC_flat_len (reps : List TabR) : (reps.flatMap tabC).length = reps.length * 6 := by
  induction reps with
  | nil => rfl
  | cons e t ih => rw [List.flatMap_cons, List.length_append, ih, tabC_len]; simp; omega
/-- One table turned: the whole side again. -/
theorem RealAt.turned {own own' : Nat → Nat} {w w' : World} {x : Nat} {reps : List TabR} {count A h nb cap : Nat} {r r' : TabR} (H : RealAt own w x reps count)
    (hX : TabsAt w x (.pointer (some ⟨nb, 0, none⟩)) (.slice (some ⟨A, 0, none⟩) reps.length cap) count) (hrow : w.ownsRow 0 105 6 (.slice (some ⟨A, 0, none⟩) reps.length cap) reps.length (reps.flatMap tabC)) (hcA : own A = 2)
    (hr : reps[h]? = some r) (hc : h < count) (ht : TabAt own' w' A h r') (hcl : Closed r'.t r'.a) (hO : Only own A h w w') (ho : ∀ k, k < w.heap.size → own' k = own k) :
    RealAt own' w' x (reps.set h r') count := by
  have hh : h < reps.length := (List.getElem?_eq_some_iff.1 hr).1
  have hAlt : A < w.heap.size := ownsRow_lt hrow A rfl
  have hxA : x ≠ A := by rintro rfl; have := H.xc; omega
  have hxs : w'.heap[x]? = w.heap[x]? := hO.block x hX.lt hxA (by rw [H.xc]; omega)
  refine ⟨⟨nb, .slice (some ⟨A, 0, none⟩) reps.length cap, hX.kept hxs hO.size, ?_, fun g hg => by cases hg; exact (ho A hAlt).trans hcA⟩, (ho x hX.lt).trans H.xc, ?_, by simpa using H.cnt, by simpa using H.max, ?_⟩
  · obtain ⟨cur, hb, hs, hn, hm, hl, hx⟩ := ownsRow_at hrow
    obtain ⟨cur', hb', hs'⟩ := hO.shape cur.size ⟨cur, hb, rfl⟩
    rw [List.length_set]
    refine ownsRow_mk hb' (by omega) hn hm (by rw [tabC_flat_len, List.length_set]) ?_
    have hcell' : ∀ i, w'.cell? ⟨A, i, none⟩ = cur'[i]? := fun i => by simp [World.cell?, hb']
    have hcell : ∀ i, w.cell? ⟨A, i, none⟩ = cur[i]? := fun i => by simp [World.cell?, hb]
    intro i hi
    obtain ⟨q, j, hj, rfl⟩ : ∃ q j, j < 6 ∧ i = q * 6 + j := ⟨i / 6, i % 6, Nat.mod_lt _ (by decide), by omega⟩
    have hq : q < reps.length := by omega
    rw [← hcell']
    by_cases c : h = q
    · subst c
      rw [flat6 tabC tabC_len (reps.set h r') h r' (by rw [List.getElem?_set]; simp [hh]) j hj]
      rcases (by omega : j = 0 ∨ j = 1 ∨ j = 2 ∨ j = 3 ∨ j = 4 ∨ j = 5) with rfl | rfl | rfl | rfl | rfl | rfl
      · exact ht.c0
      · exact ht.c1
      · exact ht.c2
      · exact ht.c3
      · exact ht.c4
      · exact ht.c5
    · rw [flat6 tabC tabC_len (reps.set h r') q reps[q] (by rw [List.getElem?_set, if_neg c]; exact List.getElem?_eq_getElem hq) j hj, hO.arena _ (by omega), hcell, hx _ hi]
      exact flat6 tabC tabC_len reps q reps[q] (List.getElem?_eq_getElem hq) j hj
  · intro q rq hq
    rw [List.getElem?_set] at hq
    by_cases c : h = q
    · subst c
      rw [if_pos rfl, if_pos hh] at hq
      cases hq
      exact ⟨ht.rep, hcl⟩
    · rw [if_neg c] at hq
      obtain ⟨h1, h2⟩ := H.rep q rq hq
      refine ⟨h1.kept (fun k hk e1 e2 => hO.block k hk (by rintro rfl; omega) (by omega)) ho, h2⟩
  · intro q rq hq hcq
    rw [List.getElem?_set, if_neg (by omega)] at hq
    exact H.wiped q rq hq hcq
theorem stOf_set {reps : List TabR} {count h : Nat} (r' : TabR) : stOf (reps.set h r') count = (stOf reps count).set h r'.t := by
  unfold stOf
  rw [List.take_set, List.map_set]

/-- A NaN parts from itself; nothing else does. -/
theorem cmp_self {N : Nat} (hN : N < 18446744073709551616) : cmpW 2 (double.order N N) = decide (2047 * 2 ^ 52 < N % 2 ^ 63) := by
  by_cases c : 2047 * 2 ^ 52 < N % 2 ^ 63
  · rw [Fl.order_nan_left c, decide_eq_true c]; rfl
  · rw [decide_eq_false c]
    have := order_self N (by omega) hN
    rw [order_eq] at this
    rw [this]; rfl
/-- What Set does to one table, the key made one. -/
def setT (st : List Tbl) (i : Nat) (t : Tbl) (k v : V) : List Tbl × Int := match idx t k with
  | some p => (st.set i (setVal t p v), 0)
  | none => if isNilB v then (st, 0) else if 32 ≤ t.length then (st, 8) else (st.set i (t ++ [(k, v)]), 0)
/-- What Set does. -/
def setP (st : List Tbl) (h : Int) (k v : V) : List Tbl × Int :=
  if h < 0 ∨ (st.length : Int) ≤ h then (st, 3)
  else if wfB k = false ∨ wfB v = false then (st, 4)
  else if k.T = 0 then (st, 5)
  else if k.T = 2 ∧ 2047 * 2 ^ 52 < k.N % 2 ^ 63 then (st, 6)
  else setT st h.toNat (st[h.toNat]?.getD []) (oneV k) v
theorem step_append_eq {P : Program} {ops : Array Oper} {o : Oper} {a : Act} {w : World} {K : Act → World → Prop} {Q : Exit → Act → World → Prop} {E : Prop}
    (hg : o.guard = none) (s x : Operand) (t : TypeId) (hop : o.op = Op.call { callee := Callee.builtin Builtin.append, args := #[s, x], argTypes := #[t, t] })
    (v u v' : Value) (w' : World) (hs : a.eval s = v) (hx : a.eval x = u) (hrun : (Builtin.append_ #[t, t] o.type #[v, u]).run P w = .ok v' w')
    (hK : K (a.put o.dst v') w') : if Region.wanted o (yielded ops a.tmps) = true then Oper.wp P o a w K Q else E := by
  have hw : Region.wanted o (yielded ops a.tmps) = true := by simp [Region.wanted, hg]
  rw [if_pos hw]
  unfold Oper.wp
  simp [execOp, hop, resolve, invoke, builtin, hs, hx, hrun, Result.andThen]
  exact hK
end Go.Proofs.Qxb6500293aGreatRR
