/-
  WHAT A STEP ON ONE TABLE MAY TURN: that table's own blocks, its six cells of the arena, new blocks; nothing else.
-/
import Derived.Test.Qxb6500293aGreatRRT7
namespace Go.Proofs.Qxb6500293aGreatRR
open Go.RowKit
open Ieee (double)
set_option linter.unusedVariables false
set_option linter.unusedSimpArgs false

def Shape (w : World) (A N : Nat) : Prop := ∃ cur : Array Value, w.heap[A]? = some (.cells cur 105) ∧ cur.size = N
structure Only (own : Nat → Nat) (A h : Nat) (w w' : World) : Prop where
  os : w'.os = w.os
  tape : w'.tape = w.tape
  output : w'.output = w.output
  size : w.heap.size ≤ w'.heap.size
  block : ∀ k, k < w.heap.size → k ≠ A → ¬ (10 + 5 * h ≤ own k ∧ own k < 15 + 5 * h) → w'.heap[k]? = w.heap[k]?
  arena : ∀ j, (j < h * 6 ∨ h * 6 + 6 ≤ j) → w'.cell? ⟨A, j, none⟩ = w.cell? ⟨A, j, none⟩
  shape : ∀ N, Shape w A N → Shape w' A N
theorem Only.refl (own : Nat → Nat) (A h : Nat) (w : World) : Only own A h w w := ⟨rfl, rfl, rfl, Nat.le_refl _, fun _ _ _ _ => rfl, fun _ _ => rfl, fun _ s => s⟩
theorem Only.trans {own own' : Nat → Nat} {A h : Nat} {x y z : World} (H : Only own A h x y) (K : Only own' A h y z) (ho : ∀ k, k < x.heap.size → own' k = own k) : Only own A h x z where
  os := K.os.trans H.os
  tape := K.tape.trans H.tape
  output := K.output.trans H.output
  size := Nat.le_trans H.size K.size
  block := fun k hk ha hn => (K.block k (Nat.lt_of_lt_of_le hk H.size) ha (by rw [ho k hk]; exact hn)).trans (H.block k hk ha hn)
  arena := fun j hj => (K.arena j hj).trans (H.arena j hj)
  shape := fun N s => K.shape N (H.shape N s)
theorem Only.of_below {own : Nat → Nat} {A h : Nat} {w w' : World} (hb : Below w.heap.size w w') (hA : A < w.heap.size) : Only own A h w w' where
  os := hb.os
  tape := hb.tape
  output := hb.output
  size := hb.size
  block := fun k hk _ _ => hb.block k hk
  arena := fun j _ => hb.cell (p := ⟨A, j, none⟩) hA
  shape := fun N ⟨cur, h1, h2⟩ => ⟨cur, (hb.block A hA).trans h1, h2⟩
theorem heap_setCell_same {w : World} {g i : Nat} {cs : Array Value} {t : TypeId} {fr : Nat × Nat} (h : w.heap[g]? = some (.cells cs t fr)) (v : Value) : (w.setCell ⟨g, i, none⟩ v).heap[g]? = some (.cells (cs.setIfInBounds i v) t fr) := by
  have hlt : g < w.heap.size := (Array.getElem?_eq_some_iff.1 h).1
  have h' : w.heap[g] = .cells cs t fr := by simpa [Array.getElem?_eq_getElem hlt] using h
  show (w.heap.modify g _)[g]? = _
  rw [Array.getElem?_eq_getElem (by simpa using hlt), Array.getElem_modify_self, h']
  rfl
theorem Only.set_arena {own : Nat → Nat} {A h : Nat} {x w : World} (H : Only own A h x w) {i : Nat} (hi : h * 6 ≤ i ∧ i < h * 6 + 6) (v : Value) : Only own A h x (w.setCell ⟨A, i, none⟩ v) where
  os := H.os
  tape := H.tape
  output := H.output
  size := by have := H.size; simpa using this
  block := fun k hk ha hn => (Below.heap_setCell _ _ _ _ ha).trans (H.block k hk ha hn)
  arena := fun j hj => (World.cell?_setCell_other _ _ _ _ (by intro e; injection e; omega)).trans (H.arena j hj)
  shape := fun N s => by
    obtain ⟨cur, h1, h2⟩ := H.shape N s
    exact ⟨_, heap_setCell_same h1 v, by simpa using h2⟩
theorem Only.set_own {own : Nat → Nat} {A h : Nat} {x w : World} (H : Only own A h x w) {p : Addr} (hA : p.block ≠ A) (hp : (10 + 5 * h ≤ own p.block ∧ own p.block < 15 + 5 * h) ∨ x.heap.size ≤ p.block) (v : Value) : Only own A h x (w.setCell p v) where
  os := H.os
  tape := H.tape
  output := H.output
  size := by have := H.size; simpa using this
  block := fun k hk ha hn => by
    rw [Below.heap_setCell _ _ _ _ (by rintro rfl; rcases hp with h | h; exact hn h; omega)]
    exact H.block k hk ha hn
  arena := fun j hj => by
    rw [World.cell?_of_block (a := ⟨A, j, none⟩) (Below.heap_setCell w p v A (Ne.symm hA))]
    exact H.arena j hj
  shape := fun N s => by
    obtain ⟨cur, h1, h2⟩ := H.shape N s
    exact ⟨cur, (Below.heap_setCell w p v A (Ne.symm hA)).trans h1, h2⟩
theorem Only.alloc {own : Nat → Nat} {A h : Nat} {x w : World} (H : Only own A h x w) (hA : A < w.heap.size) (o : Obj) : Only own A h x (w.alloc o) := H.trans (Only.of_below (below_one w o) hA) (fun _ _ => rfl)
theorem Only.drew {own : Nat → Nat} {A h : Nat} {x w : World} (H : Only own A h x w) : Only own A h x w.drew := ⟨H.os, H.tape, H.output, H.size, H.block, H.arena, H.shape⟩
theorem Only.drewN {own : Nat → Nat} {A h : Nat} {x w : World} (H : Only own A h x w) (n : Nat) : Only own A h x (w.drewN n) := ⟨H.os, H.tape, H.output, H.size, H.block, H.arena, H.shape⟩
theorem Only.grown {own : Nat → Nat} {A h : Nat} {x w w' : World} (H : Only own A h x w) {b : Nat} (hg : w.grownBy w' (some b)) (hA : b ≠ A) (hlt : A < w.heap.size) (hp : (10 + 5 * h ≤ own b ∧ own b < 15 + 5 * h) ∨ x.heap.size ≤ b) : Only own A h x w' where
  os := hg.os.trans H.os
  tape := hg.tape.trans H.tape
  output := hg.output.trans H.output
  size := Nat.le_trans H.size hg.size
  block := fun k hk ha hn => by
    rw [hg.block k (Nat.lt_of_lt_of_le hk H.size) (by rintro e; injection e with e; subst e; rcases hp with h | h; exact hn h; omega)]
    exact H.block k hk ha hn
  arena := fun j hj => by
    rw [World.cell?_of_block (a := ⟨A, j, none⟩) (hg.block A hlt (by intro e; injection e with e; exact hA e.symm))]
    exact H.arena j hj
  shape := fun N s => by
    obtain ⟨cur, h1, h2⟩ := H.shape N s
    exact ⟨cur, (hg.block A hlt (by intro e; injection e with e; exact hA e.symm)).trans h1, h2⟩

/-- A value turned: the keys stand. -/
def setVal (t : Tbl) (p : Nat) (v : V) : Tbl := match t[p]? with
  | some e => t.set p (e.1, v)
  | none => t
theorem setVal_keys (t : Tbl) (p : Nat) (v : V) : (setVal t p v).map (·.1) = t.map (·.1) := by
  unfold setVal
  cases h : t[p]? with
  | none => rfl
  | some e =>
    obtain ⟨hp, he⟩ := List.getElem?_eq_some_iff.1 h
    rw [List.map_set]
    have : (t.map (·.1))[p]? = some e.1 := by rw [List.getElem?_map, h]; rfl
    apply List.ext_getElem?
    intro i
    rw [List.getElem?_set]
    by_cases c : p = i
    · subst c; rw [if_pos rfl, if_pos (by simpa using hp), this]
    · rw [if_neg c]
theorem idx_keys {t t' : Tbl} (h : t'.map (·.1) = t.map (·.1)) (k : V) : idx t' k = idx t k := by
  have e : ∀ t : Tbl, idx t k = (t.map (·.1)).findIdx? (fun x => eqV x k) := fun t => by unfold idx; rw [List.findIdx?_map]; rfl
  rw [e, e, h]
theorem refs_keys {t t' : Tbl} (h : t'.map (·.1) = t.map (·.1)) : refsF t' = refsF t := by
  funext l
  unfold refsF
  split
  · rename_i x
    have e : ∀ t : Tbl, t.findIdx? (fun e => decide (e.1.T ≠ 2) && (decide (e.1.T ≠ 3) && decide ((packN e.1 : Int) = x))) = (t.map (·.1)).findIdx? (fun k => decide (k.T ≠ 2) && (decide (k.T ≠ 3) && decide ((packN k : Int) = x))) := fun t => by rw [List.findIdx?_map]; rfl
    rw [e, e, h]
  · rfl
theorem nums_keys {t t' : Tbl} (h : t'.map (·.1) = t.map (·.1)) (n : Nat) : numsF t' n = numsF t n := by
  funext l
  unfold numsF
  split
  · rw [idx_keys h]
  · rfl
theorem strs_keys {t t' : Tbl} (h : t'.map (·.1) = t.map (·.1)) : strsF t' = strsF t := by
  funext l
  unfold strsF
  split
  · rw [idx_keys h]
  · rfl
theorem setVal_len (t : Tbl) (p : Nat) (v : V) : (setVal t p v).length = t.length := by
  have := congrArg List.length (setVal_keys t p v)
  simpa using this
theorem setVal_at {t : Tbl} {p : Nat} {e : V × V} (h : t[p]? = some e) (v : V) (i : Nat) : (setVal t p v)[i]? = if p = i then some (e.1, v) else t[i]? := by
  unfold setVal
  rw [h, List.getElem?_set]
  have := (List.getElem?_eq_some_iff.1 h).1
  by_cases c : p = i
  · simp [c]; omega
  · simp [c]
theorem inv_setVal {t : Tbl} {a : List Nat} (hi : Inv t a) {p : Nat} {e : V × V} (h : t[p]? = some e) {v : V} (hv : ValOk v) : Inv (setVal t p v) a where
  len := by rw [setVal_len]; exact hi.len
  one := by rw [setVal_keys]; exact hi.one
  keys := by
    intro x hx
    obtain ⟨i, hi'⟩ := List.mem_iff_getElem?.1 hx
    rw [setVal_at h] at hi'
    split at hi'
    · cases hi'; exact hi.keys e (List.mem_of_getElem? h)
    · exact hi.keys x (List.mem_of_getElem? hi')
  vals := by
    intro x hx
    obtain ⟨i, hi'⟩ := List.mem_iff_getElem?.1 hx
    rw [setVal_at h] at hi'
    split at hi'
    · cases hi'; exact hv
    · exact hi.vals x (List.mem_of_getElem? hi')
  arr := by
    intro i hi2
    obtain ⟨q, x, h1, h2, h3⟩ := hi.arr i hi2
    by_cases c : p = q
    · subst c
      rw [h] at h2; cases h2
      exact ⟨p, (e.1, v), h1, by rw [setVal_at h, if_pos rfl], h3⟩
    · exact ⟨q, x, h1, by rw [setVal_at h, if_neg c]; exact h2, h3⟩
theorem closed_keys {t t' : Tbl} {a : List Nat} (h : t'.map (·.1) = t.map (·.1)) (hc : Closed t a) : Closed t' a := by
  unfold Closed at *
  rw [idx_keys h]; exact hc
theorem dead_setVal {t : Tbl} {p : Nat} {e : V × V} (h : t[p]? = some e) (v : V) : deadN (setVal t p v) + (if isNilB e.2 then 1 else 0) = deadN t + (if isNilB v then 1 else 0) := by
  have hp := (List.getElem?_eq_some_iff.1 h)
  obtain ⟨hp, he⟩ := hp
  unfold setVal deadN
  rw [h]
  simp only
  rw [List.countP_set hp, he]
  have hpos : isNilB e.2 = true → 0 < t.countP (fun e => isNilB e.2) := fun hn => List.countP_pos_iff.2 ⟨e, List.mem_of_getElem? h, hn⟩
  cases hb : isNilB e.2
  · simp
  · have := hpos hb
    simp
    omega
end Go.Proofs.Qxb6500293aGreatRR
