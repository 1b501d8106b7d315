import Derived.Test.Qxb6500292aD4
import Derived.Test.Qxb6500292aD8
namespace Go.Proofs.Qxb6500292a
open Go.RowKit
open Ieee (double)
set_option linter.unusedVariables false
set_option linter.unusedSimpArgs false

theorem newM_any (w : World) : Calls Try.prog 16 #[] w fun e w' => e = .returned (.pointer (some ⟨w.heap.size, 0, none⟩)) ∧ Below w.heap.size w w' := by
  go_enter Try.func16, Try.ntmps16
  go_wp2
  go_ret
  exact ⟨rfl, below_one _ _⟩
set_option maxHeartbeats 800000 in
theorem ground_any (w : World) : Calls Try.prog 8 #[] w fun e w' => (∃ nb mb, e = .returned (.agg #[.pointer (some ⟨nb, 0, none⟩), .pointer (some ⟨mb, 0, none⟩)])) ∧ Below w.heap.size w w' := by
  go_enter Try.func8, Try.ntmps8
  go_wp2_with fail
  refine (new_any _).mono ?_; rintro e w1 ⟨rfl, -, -, hb1, -⟩
  have HB1 : Hid (Below w.heap.size w w1) := below_two (below_one w _) hb1
  have hc : w1.heap[w.heap.size]? = some (.cells #[.pointer none, .pointer none] 30) := (hb1.block _ (by simp)).trans (World.alloc_heap_new _ _)
  have HC : Hid (w1.heap[w.heap.size]? = some (.cells #[.pointer none, .pointer none] 30)) := hc
  clear hb1 hc
  go_wp2_with fail
  refine (newM_any _).mono ?_; rintro e w2 ⟨rfl, hb2⟩
  have hc2 := (hb2.block _ (Array.getElem?_eq_some_iff.1 HC.out).1).trans HC.out
  have c0 : w2.cell? ⟨w.heap.size, 0, none⟩ = some (.pointer none) := by simp [World.cell?, hc2]
  have c1 : w2.cell? ⟨w.heap.size, 1, none⟩ = some (.pointer none) := by simp [World.cell?, hc2]
  have f0 : w2.frozen? ⟨w.heap.size, 0, none⟩ = false := by simp [World.frozen?, hc2]
  have f1 : w2.frozen? ⟨w.heap.size, 1, none⟩ = false := by simp [World.frozen?, hc2]
  have HB2 : Hid (Below w.heap.size w w2) := below_two HB1.out hb2
  clear hb2 hc2
  go_wp2
  refine bodyPost_ret (v := .agg #[.pointer (some ⟨w.heap.size + 1 + 1, 0, none⟩), .pointer (some ⟨w1.heap.size, 0, none⟩)]) (by simp [results, go_sem, c0, c1]) rfl ?_
  refine ⟨⟨_, _, rfl⟩, ?_⟩
  repeat (first | refine below_set0 ?_ _ _ | refine Below.setCell ?_ (Nat.le_refl _) _)
  exact HB2.out
theorem tnew_any (nb : Nat) (w : World) : Calls Try.prog 9 #[.pointer (some ⟨nb, 0, none⟩)] w fun e w' => e = .returned (.pointer (some ⟨w.heap.size, 0, none⟩)) ∧ w' = w.alloc (.cells #[.pointer (some ⟨nb, 0, none⟩), .slice none 0 0, .int .i64 0] 60) := by
  go_enter Try.func9, Try.ntmps9
  go_wp2
  go_ret
  exact ⟨rfl, rfl⟩
theorem mnew_any (mb : Nat) (w : World) : Calls Try.prog 11 #[.pointer (some ⟨mb, 0, none⟩)] w fun e w' => e = .returned (.pointer (some ⟨w.heap.size, 0, none⟩)) ∧ w' = w.alloc (.cells #[.pointer (some ⟨mb, 0, none⟩), .slice none 0 0] 73) := by
  go_enter Try.func11, Try.ntmps11
  go_wp2
  go_ret
  exact ⟨rfl, rfl⟩
set_option maxHeartbeats 800000 in
/-- **Seen**: both sides show the same; the real side's invariant holds. -/
theorem seen_any (own : Nat → Nat) (x y : Nat) (st : List Tbl) (w : World) (H : RS own w x st) (HM : ModAt own w y st) : Calls Try.prog 12 #[.pointer (some ⟨x, 0, none⟩), .pointer (some ⟨y, 0, none⟩)] w fun e w' => e = .returned (.bool true) ∧ Below w.heap.size w w' := by
  have hG := H.good
  have C1 := rshow own x st w H hG
  have C2 := fun w H => mshow own y st w H hG
  have C3 := fun w H => rcheck own x st w H hG
  have HH : Hid (RS own w x st) := H
  have HHM : Hid (ModAt own w y st) := HM
  generalize showT st = sh at *
  clear H HM hG
  go_enter Try.func12, Try.ntmps12
  go_wp2_with fail
  refine C1.mono ?_; rintro e w1 ⟨rfl, hb1⟩
  have HB1 : Hid (Below w.heap.size w w1) := hb1
  clear hb1
  go_wp2_with fail
  refine (C2 _ (HHM.out.below HB1.out)).mono ?_; rintro e w2 ⟨rfl, hb2⟩
  have HB2 : Hid (Below w.heap.size w w2) := below_two HB1.out hb2
  clear hb2
  go_wp2_with fail
  refine (C3 _ (HH.out.below HB2.out)).mono ?_; rintro e w3 ⟨rfl, hb3⟩
  go_wp2
  go_ret
  exact ⟨rfl, below_two HB2.out hb3⟩

/-! ### the two sides together -/
structure Two (own : Nat → Nat) (w W : World) (x y rx ry : Nat) (st : List Tbl) (k v : V) : Prop where
  real : RS own W x st
  mod : ModAt own W y st
  rr : RegAt W rx k v
  rm : RegAt W ry k v
  cr : own rx = 200
  cm : own ry = 201
  kok : k.Ok
  vok : v.Ok
  below : Below w.heap.size w W
  old : ∀ b, b < w.heap.size → own b = 0
theorem Two.next {own : Nat → Nat} {w W : World} {x y rx ry : Nat} {st : List Tbl} {k v : V} (h : Two own w W x y rx ry st k v) {W' : World} (hb : Below W.heap.size W W') : Two own w W' x y rx ry st k v :=
  ⟨h.real.below hb, h.mod.below hb, h.rr.same (hb.block _ h.rr.lt), h.rm.same (hb.block _ h.rm.lt), h.cr, h.cm, h.kok, h.vok, h.below.trans (hb.mono h.below.size), h.old⟩
/-- Behind a step of the real side. -/
theorem two_mid {own : Nat → Nat} {w W W1 : World} {x y rx ry : Nat} {st : List Tbl} {k v : V} (h : Two own w W x y rx ry st k v) {o : Out} (hE : DoEndr own W x rx o W1) (ob : Obj) :
    ∃ own1, (∀ b, b < W.heap.size → own1 b = own b) ∧ own1 W1.heap.size = 0 ∧ RS own1 (W1.alloc ob) x o.st ∧ ModAt own1 (W1.alloc ob) y st ∧ RegAt (W1.alloc ob) rx o.k o.v ∧ RegAt (W1.alloc ob) ry k v ∧ Below w.heap.size w (W1.alloc ob) ∧ own1 rx = 200 ∧ own1 ry = 201 := by
  obtain ⟨own', ho, hr, hg, e1, e2, e3, e4, e5⟩ := hE
  have hb := below_one W1 ob
  have hlx := h.rr.lt
  have hly := h.rm.lt
  have hc : ∀ b, b < W.heap.size → cut own' W1.heap.size b = own b := fun b hb => (cut_low (by omega)).trans (ho b hb)
  refine ⟨cut own' W1.heap.size, hc, cut_high (Nat.le_refl _), (hr.kept (w' := W1.alloc ob) hb.size (fun k hk _ _ => hb.block k hk) (fun k hk => cut_low hk)), ?_, hg.same (hb.block _ hg.lt), ?_, ?_, (hc rx hlx).trans h.cr, (hc ry hly).trans h.cm⟩
  · refine h.mod.kept (by have := hb.size; omega) (fun k hk h1 h2 => (hb.block k (by omega)).trans (e5 k hk (by omega) (by omega))) hc
  · exact h.rm.same ((hb.block ry (by omega)).trans (e5 ry hly (by rw [h.cm]; omega) (by rw [h.cm]; omega)))
  · have hb2 : Below w.heap.size w W1 := ⟨e1.trans h.below.os, e2.trans h.below.tape, e3.trans h.below.output, by have := h.below.size; omega, fun b hb => (e5 b (by have := h.below.size; omega) (by rw [h.old b hb]; omega) (by rw [h.old b hb]; omega)).trans (h.below.block b hb)⟩
    exact hb2.trans (hb.mono hb2.size)
theorem two_end {own : Nat → Nat} {w W W1 W2 : World} {x y rx ry : Nat} {st : List Tbl} {k v : V} (h : Two own w W x y rx ry st k v) {o : Out} {own1 : Nat → Nat} {ob : Obj} (hok : o.k.Ok ∧ o.v.Ok) (hlow : ∀ b, b < W.heap.size → own1 b = own b) (hz : own1 W1.heap.size = 0) (hs : W.heap.size ≤ W1.heap.size) (h1 : RS own1 (W1.alloc ob) x o.st) (h2 : RegAt (W1.alloc ob) rx o.k o.v) (h3 : Below w.heap.size w (W1.alloc ob)) (h4 : own1 rx = 200)
    (hE : DoEndm own1 (W1.alloc ob) y ry o W2) (ob2 : Obj) : (∃ own2, Two own2 w (W2.alloc ob2) x y rx ry o.st o.k o.v) ∧ W2.heap[W1.heap.size]? = some ob := by
  obtain ⟨own2, ho, hr, hg, e1, e2, e3, e4, e5⟩ := hE
  have hb := below_one W2 ob2
  have hsz : (W1.alloc ob).heap.size = W1.heap.size + 1 := by simp
  have hlx := h2.lt
  have hly := h.rm.lt
  have hold : ∀ b, b < w.heap.size → own1 b = 0 := fun b hb => (hlow b (by have := h.below.size; omega)).trans (h.old b hb)
  have hw : w.heap.size ≤ (W1.alloc ob).heap.size := h3.size
  refine ⟨⟨own2, ⟨h1.kept (by have := hb.size; omega) (fun k hk a b => (hb.block k (by omega)).trans (e5 k hk (by omega) (by omega))) ho, hr.below hb, h2.same ((hb.block rx (by omega)).trans (e5 rx hlx (by rw [h4]; omega) (by rw [h4]; omega))), hg.same (hb.block _ hg.lt), (ho rx hlx).trans h4, (ho ry (by omega)).trans ((hlow ry hly).trans h.cm), hok.1, hok.2, ?_, fun b hb => (ho b (by omega)).trans (hold b hb)⟩⟩, ?_⟩
  · have hb2 : Below w.heap.size w W2 := ⟨e1.trans h3.os, e2.trans h3.tape, e3.trans h3.output, by omega, fun b hb => (e5 b (by omega) (by rw [hold b hb]; omega) (by rw [hold b hb]; omega)).trans (h3.block b hb)⟩
    exact hb2.trans (hb.mono hb2.size)
  · rw [e5 W1.heap.size (by omega) (by rw [hz]; omega) (by rw [hz]; omega)]
    exact World.alloc_heap_new _ _
/-- The two sides at the start. -/
theorem two_start (w W : World) (nb mb x y rx ry : Nat) (hb : Below w.heap.size w W) (hx : W.heap[x]? = some (.cells #[.pointer (some ⟨nb, 0, none⟩), .slice none 0 0, .int .i64 0] 60)) (hy : W.heap[y]? = some (.cells #[.pointer (some ⟨mb, 0, none⟩), .slice none 0 0] 73)) (hrx : RegAt W rx nilV nilV) (hry : RegAt W ry nilV nilV)
    (h1 : w.heap.size ≤ x) (h2 : x < y) (h3 : y < rx) (h4 : rx < ry) : Two (fun b => if b = x then 1 else if b = y then 101 else if b = rx then 200 else if b = ry then 201 else 0) w W x y rx ry [] nilV nilV := by
  have hxl := (Array.getElem?_eq_some_iff.1 hx).1
  have hyl := (Array.getElem?_eq_some_iff.1 hy).1
  have hn : nilV.Ok := ⟨by decide, by decide, by decide, by decide⟩
  have o1 : (fun b => if b = x then 1 else if b = y then 101 else if b = rx then 200 else if b = ry then 201 else 0) x = 1 := if_pos rfl
  have o2 : (fun b => if b = x then 1 else if b = y then 101 else if b = rx then 200 else if b = ry then 201 else 0) y = 101 := (if_neg (by omega)).trans (if_pos rfl)
  have o3 : (fun b => if b = x then 1 else if b = y then 101 else if b = rx then 200 else if b = ry then 201 else 0) rx = 200 := (if_neg (by omega)).trans ((if_neg (by omega)).trans (if_pos rfl))
  have o4 : (fun b => if b = x then 1 else if b = y then 101 else if b = rx then 200 else if b = ry then 201 else 0) ry = 201 := (if_neg (by omega)).trans ((if_neg (by omega)).trans ((if_neg (by omega)).trans (if_pos rfl)))
  have o5 : ∀ b, b < w.heap.size → (fun b => if b = x then 1 else if b = y then 101 else if b = rx then 200 else if b = ry then 201 else 0) b = 0 := fun b hb => (if_neg (by omega)).trans ((if_neg (by omega)).trans ((if_neg (by omega)).trans (if_neg (by omega))))
  generalize (fun b => if b = x then 1 else if b = y then 101 else if b = rx then 200 else if b = ry then 201 else 0) = own at *
  have r1 : RS own W x [] := ⟨[], 0, ⟨⟨nb, .slice none 0 0, ⟨by simp [World.cell?, hx], by simp [World.cell?, hx], by simp [World.cell?, hx], (fun j => by simp [World.frozen?, hx]), hxl⟩, World.ownsRow_nil _ _ _ _, (fun g hg => by cases hg)⟩, o1, (fun h r hr => by simp at hr), by simp, by simp, (fun h r hr => by simp at hr)⟩, rfl⟩
  have r2 : ModAt own W y [] := ⟨⟨.pointer (some ⟨mb, 0, none⟩), .slice none 0 0, [], ⟨by simp [World.cell?, hy], by simp [World.cell?, hy], (fun j => by simp [World.frozen?, hy]), hyl⟩, World.ownsRow_nil _ _ _ _, (fun g hg => by cases hg), (fun h t ht => by simp at ht)⟩, o2, by simp⟩
  exact ⟨r1, r2, hrx, hry, o3, o4, hn, hn, hb, o5⟩
end Go.Proofs.Qxb6500292a
