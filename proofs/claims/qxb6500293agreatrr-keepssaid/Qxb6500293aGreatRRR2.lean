import Derived.Test.Qxb6500293aGreatRRR1
import Derived.Test.Qxb6500293aGreatRRT27
namespace Go.Proofs.Qxb6500293aGreatRR
open Go.RowKit
open Ieee (double)
set_option linter.unusedVariables false
set_option linter.unusedSimpArgs false

/-- The real side, as the list of its tables. -/
def RS (own : Nat → Nat) (w : World) (x : Nat) (st : List Tbl) : Prop := ∃ reps count, RealAt own w x reps count ∧ stOf reps count = st
theorem RS.kept {own own' : Nat → Nat} {w w' : World} {x : Nat} {st : List Tbl} (H : RS own w x st) (hs : w.heap.size ≤ w'.heap.size) (hk : ∀ k, k < w.heap.size → 1 ≤ own k → own k < 100 → w'.heap[k]? = w.heap[k]?) (ho : ∀ k, k < w.heap.size → own' k = own k) : RS own' w' x st := by
  obtain ⟨reps, count, h1, h2⟩ := H
  exact ⟨reps, count, h1.kept hs hk ho, h2⟩
theorem RS.good {own : Nat → Nat} {w : World} {x : Nat} {st : List Tbl} (H : RS own w x st) : GoodSt st := by
  obtain ⟨reps, count, h1, rfl⟩ := H
  exact h1.good
theorem RS.below {own : Nat → Nat} {w w' : World} {x : Nat} {st : List Tbl} (H : RS own w x st) (hb : Below w.heap.size w w') : RS own w' x st := H.kept hb.size (fun k hk _ _ => hb.block k hk) (fun _ _ => rfl)
def REnd (own : Nat → Nat) (w : World) (x : Nat) (st' : List Tbl) (w' : World) : Prop := ∃ own', (∀ k, k < w.heap.size → own' k = own k) ∧ RS own' w' x st' ∧ Chg own w w'
theorem REnd.same {own : Nat → Nat} {w w' : World} {x : Nat} {st : List Tbl} (H : RS own w x st) (hb : Below w.heap.size w w') : REnd own w x st w' := ⟨own, fun _ _ => rfl, H.below hb, Chg.of_below hb⟩
theorem rmake (own : Nat → Nat) (x : Nat) (st : List Tbl) (w : World) (H : RS own w x st) (hG : GoodSt st) : Calls Tryz.prog 54 #[.pointer (some ⟨x, 0, none⟩)] w fun e w' => e = .returned (.tuple #[.int .i64 (makeP st).1, .int .i64 (makeP st).2.1]) ∧ REnd own w x (makeP st).2.2 w' := by
  obtain ⟨reps, count, h1, rfl⟩ := H
  have hl := stOf_len h1.cnt
  refine (make_any own x reps count w h1).mono ?_
  intro e w' h
  unfold MakeEnd at h
  unfold makeP
  rw [hl]
  split at h
  · rename_i c
    rw [if_pos c]
    obtain ⟨rfl, rfl⟩ := h
    exact ⟨rfl, REnd.same ⟨reps, count, h1, rfl⟩ (Below.refl _ _)⟩
  · rename_i c
    rw [if_neg c]
    obtain ⟨rfl, own', reps', h2, h3, h4, h5⟩ := h
    exact ⟨rfl, own', h2, ⟨reps', count + 1, h3, h4⟩, h5⟩
theorem rreset (own : Nat → Nat) (x : Nat) (st : List Tbl) (w : World) (H : RS own w x st) (hG : GoodSt st) : Calls Tryz.prog 52 #[.pointer (some ⟨x, 0, none⟩)] w fun e w' => e = .returned (.tuple #[]) ∧ REnd own w x [] w' := by
  obtain ⟨reps, count, h1, rfl⟩ := H
  refine (reset_any own x reps count w h1).mono ?_
  rintro e w' ⟨rfl, ⟨reps', h2⟩, h3⟩
  exact ⟨rfl, own, fun _ _ => rfl, ⟨reps', 0, h2, rfl⟩, h3⟩
theorem rcount (own : Nat → Nat) (x : Nat) (st : List Tbl) (w : World) (H : RS own w x st) (hG : GoodSt st) : Calls Tryz.prog 46 #[.pointer (some ⟨x, 0, none⟩)] w fun e w' => e = .returned (.int .i64 (st.length : Int)) ∧ w' = w := by
  obtain ⟨reps, count, h1, rfl⟩ := H
  rw [stOf_len h1.cnt]
  exact count_any own x reps count w h1
theorem rget (own : Nat → Nat) (x : Nat) (st : List Tbl) (h : Int) (k : V) (w : World) (H : RS own w x st) (hG : GoodSt st) (hk : k.Ok) : Calls Tryz.prog 105 #[.pointer (some ⟨x, 0, none⟩), .int .i64 h, valV k] w fun e w' => e = .returned (.tuple #[valV (getP st h k).1, .int .i64 (getP st h k).2]) ∧ Below w.heap.size w w' := by
  obtain ⟨reps, count, h1, rfl⟩ := H
  exact get_any own x reps count h k w h1 hk
theorem rset (own : Nat → Nat) (x : Nat) (st : List Tbl) (h : Int) (k v : V) (w : World) (H : RS own w x st) (hG : GoodSt st) (hk : k.Ok) (hv : v.Ok) : Calls Tryz.prog 56 #[.pointer (some ⟨x, 0, none⟩), .int .i64 h, valV k, valV v] w fun e w' => e = .returned (.int .i64 (setP st h k v).2) ∧ REnd own w x (setP st h k v).1 w' := by
  obtain ⟨reps, count, h1, rfl⟩ := H
  refine (set_any own x reps count h k v w h1 hk hv).mono ?_
  rintro e w' ⟨rfl, own', reps', h2, h3, h4, h5⟩
  exact ⟨rfl, own', h2, ⟨reps', count, h3, h4⟩, h5⟩
theorem rnext (own : Nat → Nat) (x : Nat) (st : List Tbl) (h : Int) (k : V) (w : World) (H : RS own w x st) (hG : GoodSt st) (hk : k.Ok) : Calls Tryz.prog 115 #[.pointer (some ⟨x, 0, none⟩), .int .i64 h, valV k] w fun e w' => e = .returned (.tuple #[valV (nextP st h k).1, valV (nextP st h k).2.1, .int .i64 (nextP st h k).2.2]) ∧ Below w.heap.size w w' := by
  obtain ⟨reps, count, h1, rfl⟩ := H
  exact next_any own x reps count h k w h1 hk
theorem rlen (own : Nat → Nat) (x : Nat) (st : List Tbl) (h : Int) (w : World) (H : RS own w x st) (hG : GoodSt st) : Calls Tryz.prog 121 #[.pointer (some ⟨x, 0, none⟩), .int .i64 h] w fun e w' => e = .returned (.tuple #[.int .i64 (lenP st h).1, .int .i64 (lenP st h).2]) ∧ Below w.heap.size w w' := by
  obtain ⟨reps, count, h1, rfl⟩ := H
  exact len_any own x reps count h w h1
theorem rshow (own : Nat → Nat) (x : Nat) (st : List Tbl) (w : World) (H : RS own w x st) (hG : GoodSt st) : Calls Tryz.prog 18 #[.pointer (some ⟨x, 0, none⟩)] w fun e w' => e = .returned (.string ⟨(showT st).toArray⟩) ∧ Below w.heap.size w w' := by
  obtain ⟨reps, count, h1, rfl⟩ := H
  exact show_any own x reps count w h1
theorem rcheck (own : Nat → Nat) (x : Nat) (st : List Tbl) (w : World) (H : RS own w x st) (hG : GoodSt st) : Calls Tryz.prog 31 #[.pointer (some ⟨x, 0, none⟩)] w fun e w' => e = .returned (.bool true) ∧ Below w.heap.size w w' := by
  obtain ⟨reps, count, h1, rfl⟩ := H
  exact check_any own x reps count w h1
/-- The boxes of a step's own variables: the step, the result, the answer. -/
abbrev oZ : Obj := .cells #[.int .i64 0, .int .i64 0, .int .i64 0, .string ⟨#[]⟩, .string ⟨#[]⟩] 53
abbrev oOp (K A B C : Int) (S T : List UInt8) : Obj := .cells #[.int .i64 K, .int .i64 A, .int .i64 B, .int .i64 C, .string ⟨S.toArray⟩, .string ⟨T.toArray⟩] 47
abbrev doW (w : World) (K A B C : Int) (S T : List UInt8) : World := ((w.alloc (oOp K A B C S T)).alloc oZ).alloc oZ
structure DB (w W : World) (K A B C : Int) (S T : List UInt8) : Prop where
  o : W.heap[w.heap.size]? = some (oOp K A B C S T)
  r : W.heap[w.heap.size + 1]? = some oZ
  a : W.heap[w.heap.size + 1 + 1]? = some oZ
theorem doW_below (w : World) (K A B C : Int) (S T : List UInt8) : Below w.heap.size w (doW w K A B C S T) := below_two (below_two (below_one _ _) (below_one _ _)) (below_one _ _)
theorem doW_size (w : World) (K A B C : Int) (S T : List UInt8) : (doW w K A B C S T).heap.size = w.heap.size + 3 := by simp
theorem DB.below {w W W' : World} {K A B C : Int} {S T : List UInt8} (h : DB w W K A B C S T) (hb : Below W.heap.size W W') : DB w W' K A B C S T :=
  ⟨(hb.block _ (Array.getElem?_eq_some_iff.1 h.o).1).trans h.o, (hb.block _ (Array.getElem?_eq_some_iff.1 h.r).1).trans h.r, (hb.block _ (Array.getElem?_eq_some_iff.1 h.a).1).trans h.a⟩
theorem DB.new (w : World) (K A B C : Int) (S T : List UInt8) : DB w (doW w K A B C S T) K A B C S T := by
  refine ⟨?_, ?_, ?_⟩
  · have := World.alloc_heap_new w (oOp K A B C S T)
    exact ((below_one _ oZ).block _ (by simp; omega)).trans (((below_one _ oZ).block _ (by simp)).trans this)
  · have := World.alloc_heap_new (w.alloc (oOp K A B C S T)) oZ
    rw [World.size_alloc] at this
    exact ((below_one _ oZ).block _ (by simp)).trans this
  · have := World.alloc_heap_new ((w.alloc (oOp K A B C S T)).alloc oZ) oZ
    rw [World.size_alloc, World.size_alloc] at this
    exact this
/-- What the boxes read. -/
theorem DB.cells {w W : World} {K A B C : Int} {S T : List UInt8} (h : DB w W K A B C S T) :
    (W.cell? ⟨w.heap.size, 0, none⟩ = some (.int .i64 K) ∧ W.cell? ⟨w.heap.size, 1, none⟩ = some (.int .i64 A)) ∧
    (W.cell? ⟨w.heap.size + 1, 0, none⟩ = some (.int .i64 0) ∧ W.cell? ⟨w.heap.size + 1, 1, none⟩ = some (.int .i64 0) ∧ W.cell? ⟨w.heap.size + 1, 2, none⟩ = some (.int .i64 0) ∧ W.cell? ⟨w.heap.size + 1, 3, none⟩ = some (.string ⟨#[]⟩) ∧ W.cell? ⟨w.heap.size + 1, 4, none⟩ = some (.string ⟨#[]⟩)) ∧
    (W.cell? ⟨w.heap.size + 1 + 1, 0, none⟩ = some (.int .i64 0) ∧ W.cell? ⟨w.heap.size + 1 + 1, 1, none⟩ = some (.int .i64 0) ∧ W.cell? ⟨w.heap.size + 1 + 1, 2, none⟩ = some (.int .i64 0) ∧ W.cell? ⟨w.heap.size + 1 + 1, 3, none⟩ = some (.string ⟨#[]⟩) ∧ W.cell? ⟨w.heap.size + 1 + 1, 4, none⟩ = some (.string ⟨#[]⟩)) ∧
    (W.frozen? ⟨w.heap.size + 1, 0, none⟩ = false ∧ W.frozen? ⟨w.heap.size + 1, 1, none⟩ = false ∧ W.frozen? ⟨w.heap.size + 1, 2, none⟩ = false ∧ W.frozen? ⟨w.heap.size + 1, 3, none⟩ = false ∧ W.frozen? ⟨w.heap.size + 1, 4, none⟩ = false) ∧
    (W.frozen? ⟨w.heap.size + 1 + 1, 0, none⟩ = false ∧ W.frozen? ⟨w.heap.size + 1 + 1, 1, none⟩ = false ∧ W.frozen? ⟨w.heap.size + 1 + 1, 3, none⟩ = false) := by
  obtain ⟨h0, h1, h2⟩ := h
  simp [World.cell?, World.frozen?, h0, h1, h2]
theorem apt_three (w : World) (o1 o2 o3 : Obj) {K A B C : Int} {S T : List UInt8} : Apt w.heap.size none (doW w K A B C S T) (((w.alloc o1).alloc o2).alloc o3) := by
  have h1 := below_two (below_two (below_one w o1) (below_one _ o2)) (below_one _ o3)
  have h2 := doW_below w K A B C S T
  have h3 := doW_size w K A B C S T
  refine ⟨rfl, rfl, rfl, by simp, fun k hk _ hk2 => ?_⟩
  have hlt : k < w.heap.size := by omega
  rw [h1.block k hlt, h2.block k hlt]
/-- What one step leaves on this side. -/
def DoEndr (own : Nat → Nat) (w : World) (x rb : Nat) (o : Out) (w' : World) : Prop :=
  ∃ own', (∀ k, k < w.heap.size → own' k = own k) ∧ RS own' w' x o.st ∧ RegAt w' rb o.k o.v ∧ (w'.os = w.os ∧ w'.tape = w.tape ∧ w'.output = w.output ∧ w.heap.size ≤ w'.heap.size ∧ ∀ k, k < w.heap.size → ¬ (1 ≤ own k ∧ own k < 100) → own k ≠ 200 → w'.heap[k]? = w.heap[k]?)
theorem fin_r {own : Nat → Nat} {w w1 w2 wf : World} {x rb : Nat} {o : Out} {ro : Option Nat} (hb1 : Below w.heap.size w w1) (hs1 : w1.heap.size = w.heap.size + 3) (hE : REnd (cut own w.heap.size) w1 x o.st w2) (hA : Apt w.heap.size ro w2 wf) (hro : ∀ r, ro = some r → r < w.heap.size ∧ own r = 200) (hreg : RegAt wf rb o.k o.v) : DoEndr own w x rb o wf := by
  obtain ⟨own1, ho, hP, hC⟩ := hE
  have hs2 := hC.size
  have hs3 := hA.size
  have hs0 := hb1.size
  have hlow : ∀ k, k < w.heap.size → own1 k = own k := fun k hk => (ho k (by omega)).trans (cut_low hk)
  refine ⟨own1, hlow, hP.kept hs3 ?_ (fun _ _ => rfl), hreg, (hA.os.trans hC.os).trans hb1.os, (hA.tape.trans hC.tape).trans hb1.tape, (hA.output.trans hC.output).trans hb1.output, by omega, ?_⟩
  · intro k hk h1 h2
    refine hA.block k hk ?_ ?_
    · intro e
      obtain ⟨h3, h4⟩ := hro k e.symm
      rw [hlow k h3, h4] at h2
      omega
    · by_cases c : k < w.heap.size
      · exact .inl c
      · right
        rcases Nat.lt_or_ge k (w.heap.size + 3) with d | d
        · rw [ho k (by omega), cut_high (by omega)] at h1
          omega
        · exact d
  · intro k hk h1 h2
    rw [hA.block k (by omega) (fun e => h2 (hro k e.symm).2) (.inl hk), hC.block k (by omega) (by rw [cut_low hk]; exact h1), hb1.block k hk]
theorem reg_r {own : Nat → Nat} {w w1 w2 wf : World} {x rb : Nat} {st' : List Tbl} {k v : V} (hb1 : Below w.heap.size w w1) (hE : REnd (cut own w.heap.size) w1 x st' w2) (hA : Apt w.heap.size none w2 wf) (hR : RegAt w rb k v) (hc : own rb = 200) : RegAt wf rb k v := by
  obtain ⟨own1, ho, hP, hC⟩ := hE
  have hs2 := hC.size
  have hs0 := hb1.size
  have hlt := hR.lt
  exact hR.same ((hA.block rb (by omega) (by simp) (.inl hlt)).trans ((hC.block rb (by omega) (by rw [cut_low hlt, hc]; omega)).trans (hb1.block rb hlt)))
theorem DB.endr {own : Nat → Nat} {w w1 w2 : World} {x : Nat} {st' : List Tbl} {K A B C : Int} {S T : List UInt8} (h : DB w w1 K A B C S T) (hs1 : w1.heap.size = w.heap.size + 3) (hE : REnd (cut own w.heap.size) w1 x st' w2) : DB w w2 K A B C S T := by
  obtain ⟨own1, ho, hP, hC⟩ := hE
  have e : ∀ j, w.heap.size ≤ j → j < w.heap.size + 3 → w2.heap[j]? = w1.heap[j]? := fun j h1 h2 => hC.block j (by omega) (by rw [cut_high h1]; omega)
  exact ⟨(e _ (by omega) (by omega)).trans h.o, (e _ (by omega) (by omega)).trans h.r, (e _ (by omega) (by omega)).trans h.a⟩

theorem RegAt.setr {w : World} {b : Nat} {k v : V} (h : RegAt w b k v) {p : Addr} (hp : p.block ≠ b) (u : Value) : RegAt (w.setCell p u) b k v := h.same (Below.heap_setCell _ _ _ _ (Ne.symm hp))
end Go.Proofs.Qxb6500293aGreatRR
