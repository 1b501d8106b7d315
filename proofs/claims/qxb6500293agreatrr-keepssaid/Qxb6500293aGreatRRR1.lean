import Derived.Test.Qxb6500293aGreatRRU6
import Derived.Test.Qxb6500293aGreatRRO1
namespace Go.Proofs.Qxb6500293aGreatRR
open Go.RowKit
open Ieee (double)
set_option linter.unusedVariables false
set_option linter.unusedSimpArgs false

/-- A step of the script. -/
def opV (K A B C : Int) (S T : List UInt8) : Value := .agg #[.int .i64 K, .int .i64 A, .int .i64 B, .int .i64 C, .string ⟨S.toArray⟩, .string ⟨T.toArray⟩]
theorem opV_mk (K A B C : Int) (S T : List UInt8) : opV K A B C S T = .agg #[.int .i64 K, .int .i64 A, .int .i64 B, .int .i64 C, .string ⟨S.toArray⟩, .string ⟨T.toArray⟩] := rfl
/-- A number's word. -/
def u64N (B : Int) : Nat := (B % 18446744073709551616).toNat
def valOf (A B : Int) (S : List UInt8) : V := ⟨A, u64N B, S⟩
theorem u64N_lt (B : Int) : u64N B < 18446744073709551616 := by unfold u64N; omega
theorem valOf_ok {A B : Int} {S : List UInt8} (hA : I64 A) (hS : S.length ≤ 9223372036854775807) : (valOf A B S).Ok := ⟨hA.1, hA.2, u64N_lt B, hS⟩
/-! ### what one step of the script does -/
structure Out where
  E : Int
  N : Int
  Z : List UInt8
  st : List Tbl
  k : V
  v : V
def doP (st : List Tbl) (k v : V) (K A B : Int) (S : List UInt8) : Out :=
  if K = 1 then ⟨0, 0, [], st, valOf A B S, v⟩
  else if K = 2 then ⟨0, 0, [], st, k, valOf A B S⟩
  else if K = 3 then ⟨(makeP st).2.1, (makeP st).1, [], (makeP st).2.2, k, v⟩
  else if K = 4 then ⟨0, 0, [], [], k, v⟩
  else if K = 5 then ⟨0, (st.length : Int), [], st, k, v⟩
  else if K = 6 then ⟨(getP st A k).2, 0, showV (getP st A k).1, st, k, v⟩
  else if K = 7 then ⟨(setP st A k v).2, 0, [], (setP st A k v).1, k, v⟩
  else if K = 8 then ⟨(nextP st A k).2.2, 0, pairV (nextP st A k).1 (nextP st A k).2.1, st, k, v⟩
  else if K = 9 then ⟨(nextP st A k).2.2, 0, pairV (nextP st A k).1 (nextP st A k).2.1, st, (nextP st A k).1, v⟩
  else if K = 10 then ⟨(lenP st A).2, (lenP st A).1, [], st, k, v⟩
  else if K = 11 then ⟨0, 0, showT st, st, k, v⟩
  else if K = 12 then ⟨0, 1, [], st, k, v⟩
  else ⟨0, 0, [], st, k, v⟩
def ansV (E N : Int) (Z : List UInt8) : Value := .agg #[.int .i64 E, .int .i64 N, .int .i64 0, .string ⟨Z.toArray⟩, .string ⟨#[]⟩]
theorem nil_ok : ValOk nilV := ⟨by decide, by decide⟩
theorem getP_ok {st : List Tbl} (hG : GoodSt st) (h : Int) (k : V) : ValOk (getP st h k).1 := by
  unfold getP
  split
  · exact nil_ok
  split
  · exact nil_ok
  rename_i h1 _
  obtain ⟨t, ht, hgd⟩ := st_at (st := st) (h := h.toNat) (by omega)
  obtain ⟨a, hinv⟩ := hG.at ht
  rw [hgd]
  split
  · exact nil_ok
  · exact (good_getD hinv _).2
theorem nextP_ok {st : List Tbl} (hG : GoodSt st) (h : Int) (k : V) : ValOk (nextP st h k).1 ∧ ValOk (nextP st h k).2.1 := by
  unfold nextP
  split
  · exact ⟨nil_ok, nil_ok⟩
  split
  · exact ⟨nil_ok, nil_ok⟩
  rename_i h1 _
  obtain ⟨t, ht, hgd⟩ := st_at (st := st) (h := h.toNat) (by omega)
  obtain ⟨a, hinv⟩ := hG.at ht
  rw [hgd]
  split
  · exact ⟨nil_ok, nil_ok⟩
  split
  · exact good_getD hinv _
  · exact ⟨nil_ok, nil_ok⟩
theorem doP_ok {st : List Tbl} (hG : GoodSt st) {k v : V} (hk : k.Ok) (hv : v.Ok) (K : Int) {A B : Int} {S : List UInt8} (hA : I64 A) (hS : S.length ≤ 9223372036854775807) : (doP st k v K A B S).k.Ok ∧ (doP st k v K A B S).v.Ok := by
  have hn := (nextP_ok hG A k).1
  unfold doP
  by_cases h1 : K = 1
  · rw [if_pos h1]; exact ⟨valOf_ok hA hS, hv⟩
  rw [if_neg h1]
  by_cases h2 : K = 2
  · rw [if_pos h2]; exact ⟨hk, valOf_ok hA hS⟩
  rw [if_neg h2]
  by_cases h3 : K = 3
  · rw [if_pos h3]; exact ⟨hk, hv⟩
  rw [if_neg h3]
  by_cases h4 : K = 4
  · rw [if_pos h4]; exact ⟨hk, hv⟩
  rw [if_neg h4]
  by_cases h5 : K = 5
  · rw [if_pos h5]; exact ⟨hk, hv⟩
  rw [if_neg h5]
  by_cases h6 : K = 6
  · rw [if_pos h6]; exact ⟨hk, hv⟩
  rw [if_neg h6]
  by_cases h7 : K = 7
  · rw [if_pos h7]; exact ⟨hk, hv⟩
  rw [if_neg h7]
  by_cases h8 : K = 8
  · rw [if_pos h8]; exact ⟨hk, hv⟩
  rw [if_neg h8]
  by_cases h9 : K = 9
  · rw [if_pos h9]; exact ⟨wf_ok hn.wf hn.N, hv⟩
  rw [if_neg h9]
  by_cases h10 : K = 10
  · rw [if_pos h10]; exact ⟨hk, hv⟩
  rw [if_neg h10]
  by_cases h11 : K = 11
  · rw [if_pos h11]; exact ⟨hk, hv⟩
  rw [if_neg h11]
  by_cases h12 : K = 12
  · rw [if_pos h12]; exact ⟨hk, hv⟩
  rw [if_neg h12]
  exact ⟨hk, hv⟩

/-! ### the two registers; the boxes of a step's own variables -/
def RegAt (w : World) (b : Nat) (k v : V) : Prop := w.heap[b]? = some (.cells #[.int .i64 k.T, .int .u64 k.N, .string ⟨k.S.toArray⟩, .int .i64 v.T, .int .u64 v.N, .string ⟨v.S.toArray⟩] 44)
theorem RegAt.lt {w : World} {b : Nat} {k v : V} (h : RegAt w b k v) : b < w.heap.size := (Array.getElem?_eq_some_iff.1 h).1
theorem RegAt.cells {w : World} {b : Nat} {k v : V} (h : RegAt w b k v) : (w.cell? ⟨b, 0, none⟩ = some (.int .i64 k.T) ∧ w.cell? ⟨b, 1, none⟩ = some (.int .u64 k.N) ∧ w.cell? ⟨b, 2, none⟩ = some (.string ⟨k.S.toArray⟩)) ∧ (w.cell? ⟨b, 3, none⟩ = some (.int .i64 v.T) ∧ w.cell? ⟨b, 4, none⟩ = some (.int .u64 v.N) ∧ w.cell? ⟨b, 5, none⟩ = some (.string ⟨v.S.toArray⟩)) ∧ ∀ j, w.frozen? ⟨b, j, none⟩ = false := by
  unfold RegAt at h
  simp [World.cell?, World.frozen?, h]
theorem RegAt.setK {w : World} {b : Nat} {k v : V} (h : RegAt w b k v) (u : V) : RegAt (((w.setCell ⟨b, 0, none⟩ (.int .i64 u.T)).setCell ⟨b, 1, none⟩ (.int .u64 u.N)).setCell ⟨b, 2, none⟩ (.string ⟨u.S.toArray⟩)) b u v := by
  unfold RegAt at *
  rw [heap_setCell_same (heap_setCell_same (heap_setCell_same h _) _) _]
  rfl
theorem RegAt.setV {w : World} {b : Nat} {k v : V} (h : RegAt w b k v) (u : V) : RegAt (((w.setCell ⟨b, 3, none⟩ (.int .i64 u.T)).setCell ⟨b, 3 + 1, none⟩ (.int .u64 u.N)).setCell ⟨b, 3 + 2, none⟩ (.string ⟨u.S.toArray⟩)) b k u := by
  unfold RegAt at *
  rw [heap_setCell_same (heap_setCell_same (heap_setCell_same h _) _) _]
  rfl
theorem RegAt.same {w w' : World} {b : Nat} {k v : V} (h : RegAt w b k v) (e : w'.heap[b]? = w.heap[b]?) : RegAt w' b k v := e.trans h
/-- The colours below n; none above. -/
def cut (own : Nat → Nat) (n : Nat) : Nat → Nat := fun k => if k < n then own k else 0
theorem cut_low {own : Nat → Nat} {n k : Nat} (h : k < n) : cut own n k = own k := if_pos h
theorem cut_high {own : Nat → Nat} {n k : Nat} (h : n ≤ k) : cut own n k = 0 := if_neg (by omega)
/-- All but the three boxes at n (and the registers) is as it was. -/
structure Apt (n : Nat) (ro : Option Nat) (x w : World) : Prop where
  os : w.os = x.os
  tape : w.tape = x.tape
  output : w.output = x.output
  size : x.heap.size ≤ w.heap.size
  block : ∀ k, k < x.heap.size → some k ≠ ro → (k < n ∨ n + 3 ≤ k) → w.heap[k]? = x.heap[k]?
section
variable {n : Nat} {ro : Option Nat} {x w w' : World}
theorem Apt.refl (n : Nat) (ro : Option Nat) (x : World) : Apt n ro x x := ⟨rfl, rfl, rfl, Nat.le_refl _, fun _ _ _ _ => rfl⟩
theorem Apt.below (h : Apt n ro x w) (hb : Below w.heap.size w w') : Apt n ro x w' := ⟨hb.os.trans h.os, hb.tape.trans h.tape, hb.output.trans h.output, Nat.le_trans h.size hb.size, fun k hk h1 h2 => (hb.block k (Nat.lt_of_lt_of_le hk h.size)).trans (h.block k hk h1 h2)⟩
theorem Apt.alloc (h : Apt n ro x w) (o : Obj) : Apt n ro x (w.alloc o) := h.below (below_one _ _)
theorem Apt.drew (h : Apt n ro x w) : Apt n ro x w.drew := ⟨h.os, h.tape, h.output, h.size, h.block⟩
theorem Apt.drewN (h : Apt n ro x w) (m : Nat) : Apt n ro x (w.drewN m) := h.below (below_drewN (Below.refl _ _) m)
theorem Apt.set (h : Apt n ro x w) {p : Addr} (v : Value) (hp : (n ≤ p.block ∧ p.block < n + 3) ∨ some p.block = ro ∨ x.heap.size ≤ p.block) : Apt n ro x (w.setCell p v) := by
  refine ⟨h.os, h.tape, h.output, by simpa using h.size, fun k hk h1 h2 => ?_⟩
  rw [Below.heap_setCell _ _ _ _ (by rintro rfl; rcases hp with h | h | h; omega; exact h1 h; omega)]
  exact h.block k hk h1 h2
end
end Go.Proofs.Qxb6500293aGreatRR
