/-
  THE WORLD's WORDS: a row of bytes in a block of its own; a step that turns at most one old block.
-/
import Derived.Test.Qxb6500293aGreatRRDec
import Derived.WalkKit
namespace Go.Proofs.Qxb6500293aGreatRR
open Go.RowKit

/-- Of the old blocks at most block b has turned. -/
structure Stp (b : Nat) (w w' : World) : Prop where
  os : w'.os = w.os
  tape : w'.tape = w.tape
  output : w'.output = w.output
  size : w.heap.size ≤ w'.heap.size
  block : ∀ k, k < w.heap.size → k ≠ b → w'.heap[k]? = w.heap[k]?

theorem Stp.refl (b : Nat) (w : World) : Stp b w w := ⟨rfl, rfl, rfl, Nat.le_refl _, fun _ _ _ => rfl⟩
theorem Stp.trans {b : Nat} {x y z : World} (h : Stp b x y) (k : Stp b y z) : Stp b x z :=
  ⟨k.os.trans h.os, k.tape.trans h.tape, k.output.trans h.output, Nat.le_trans h.size k.size, fun i hi hb => (k.block i (Nat.lt_of_lt_of_le hi h.size) hb).trans (h.block i hi hb)⟩
theorem Stp.of_eq {b : Nat} {x y : World} (h : y = x) : Stp b x y := by subst h; exact Stp.refl b _
theorem Stp.drew {b : Nat} {x y : World} (h : Stp b x y) : Stp b x y.drew := ⟨h.os, h.tape, h.output, h.size, h.block⟩
theorem Stp.alloc {b : Nat} {x y : World} (h : Stp b x y) (o : Obj) : Stp b x (y.alloc o) :=
  h.trans ⟨rfl, rfl, rfl, by simp, fun k hk _ => Below.heap_alloc _ _ _ hk⟩
theorem Stp.setCell {b : Nat} {x y : World} (h : Stp b x y) {p : Addr} (hp : p.block = b ∨ x.heap.size ≤ p.block) (v : Value) : Stp b x (y.setCell p v) :=
  ⟨h.os, h.tape, h.output, by have := h.size; simpa [World.setCell] using this, fun k hk hb => by
    rw [Below.heap_setCell _ _ _ _ (by rcases hp with e | e <;> omega)]; exact h.block k hk hb⟩
theorem Stp.of_below {b : Nat} {x y : World} (h : Below x.heap.size x y) : Stp b x y := ⟨h.os, h.tape, h.output, h.size, fun k hk _ => h.block k hk⟩
theorem Stp.below {b B : Nat} {x y : World} (h : Stp b x y) (h1 : B ≤ b) (h2 : B ≤ x.heap.size) : Below B x y := ⟨h.os, h.tape, h.output, h.size, fun k hk => h.block k (by omega) (by omega)⟩

/-- A byte's cell. -/
def cel (c : UInt8) : Value := .int .u8 (c.toNat : Int)
/-- Block b holds just these bytes. -/
def BB (t : TypeId) (b : Nat) (bs : List UInt8) (w : World) : Prop := w.heap[b]? = some (.cells (bs.map cel).toArray t)

theorem BB.cell {t : TypeId} {b : Nat} {bs : List UInt8} {w : World} (h : BB t b bs w) {i : Nat} (hi : i < bs.length) : w.cell? ⟨b, i, none⟩ = some (.int .u8 (bs[i].toNat : Int)) := by
  unfold BB at h
  simp only [World.cell?, h]
  simp [hi, cel]
theorem BB.frozen {t : TypeId} {b : Nat} {bs : List UInt8} {w : World} (h : BB t b bs w) (i : Nat) : w.frozen? ⟨b, i, none⟩ = false := by
  unfold BB at h
  simp [World.frozen?, h]
theorem cel_of {n : Int} (h0 : 0 ≤ n) (h1 : n < 256) : cel (UInt8.ofNat n.toNat) = .int .u8 n := by
  have e : (UInt8.ofNat n.toNat).toNat = n.toNat := by
    rw [UInt8.toNat_ofNat']; exact Nat.mod_eq_of_lt (by omega)
  unfold cel
  rw [e, Int.toNat_of_nonneg h0]
theorem BB.set {t : TypeId} {b : Nat} {bs : List UInt8} {w : World} (h : BB t b bs w) (i : Nat) {n : Int} (h0 : 0 ≤ n) (h1 : n < 256) : BB t b (bs.set i (UInt8.ofNat n.toNat)) (w.setCell ⟨b, i, none⟩ (.int .u8 n)) := by
  unfold BB at *
  simp only [World.setCell, Array.getElem?_modify, if_pos, h, Option.map_some]
  rw [List.map_set, cel_of h0 h1]
  simp
theorem BB.lt {t : TypeId} {b : Nat} {bs : List UInt8} {w : World} (h : BB t b bs w) : b < w.heap.size := by
  unfold BB at h
  exact (Array.getElem?_eq_some_iff.1 h).1
theorem BB.drew {t : TypeId} {b : Nat} {bs : List UInt8} {w : World} (h : BB t b bs w) : BB t b bs w.drew := h

/-- The bytes as a string: what 'string(b[i:j])' reads. -/
theorem fold_push (l : List UInt8) (s : ByteArray) : (l.map fun c => (c.toNat : Int)).foldl (fun r n => r.push (UInt8.ofNat n.toNat)) s = ⟨s.data ++ l.toArray⟩ := by
  induction l generalizing s with
  | nil => simp
  | cons c l ih =>
    simp only [List.map_cons, List.foldl_cons, Int.toNat_natCast, UInt8.ofNat_toNat]
    rw [ih]
    simp [ByteArray.push]
theorem BB.load {P : Program} {t : TypeId} {b : Nat} {bs : List UInt8} {w : World} (h : BB t b bs w) {i n : Nat} (hi : i + n ≤ bs.length) :
    (loadCells ⟨b, i, none⟩ n).run P w = .ok (((bs.drop i).take n).map cel).toArray w := by
  have e : (((bs.drop i).take n).map cel).length = n := by simp; omega
  have := run_loadCells_list (P := P) w ⟨b, i, none⟩ (((bs.drop i).take n).map cel) (by
    intro j v hj
    have hjn : j < n := by
      have := (List.getElem?_eq_some_iff.1 hj).1
      omega
    have : w.cell? ⟨b, i + j, none⟩ = some (.int .u8 (bs[i + j].toNat : Int)) := h.cell (by omega)
    rw [show (⟨b, i, none⟩ : Addr).add j = ⟨b, i + j, none⟩ from by simp [Addr.add], this, ← hj]
    simp [hjn, show i + j < bs.length by omega, cel])
  rw [e] at this
  exact this
theorem BB.str {P : Program} {t : TypeId} {b : Nat} {bs : List UInt8} {w : World} (h : BB t b bs w) {i n c : Nat} (hi : i + n ≤ bs.length) :
    (Conv.bytesToString (.slice (some ⟨b, i, none⟩) n c)).run P w = .ok (.string ⟨((bs.drop i).take n).toArray⟩) w := by
  have := run_bytesToString (P := P) w ⟨b, i, none⟩ n c (((bs.drop i).take n).map fun c => (c.toNat : Int)) (by
    rw [h.load hi, List.map_map]; rfl)
  rw [this, fold_push]
  simp

end Go.Proofs.Qxb6500293aGreatRR
