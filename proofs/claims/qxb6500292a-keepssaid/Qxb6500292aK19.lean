/-
  Kept walked.
-/
import Derived.Test.Qxb6500292aK17
import Derived.Test.Qxb6500292aK18
namespace Go.Proofs.Qxb6500292a
open Go.RowKit
open Ieee (double)
set_option linter.unusedVariables false
set_option linter.unusedSimpArgs false

abbrev bO (nb mb : Value) : Obj := .cells #[nb, mb] 30
abbrev vO (k : V) : Obj := .cells #[.int .i64 k.T, .int .u64 k.N, .string ⟨k.S.toArray⟩] 42
/-- How Kept ends. -/
def KeEnd (own : Nat → Nat) (w : World) (x g rb : Nat) (w' : World) : Prop := ∃ own' st' gs' k' v', (∀ j, j < w.heap.size → own' j = own j) ∧ Ke own' w' x g rb st' st' gs' k' v' ∧ k'.Ok ∧ v'.Ok ∧ ChgK own w w'
theorem reg_all {w W : World} {rb : Nat} {k v : V} (h : RegAt w rb k v) (hb : Below w.heap.size w W) : (W.cell? ⟨rb, 0, none⟩ = some (.int .i64 k.T) ∧ W.cell? ⟨rb, 1, none⟩ = some (.int .u64 k.N) ∧ W.cell? ⟨rb, 2, none⟩ = some (.string ⟨k.S.toArray⟩)) ∧ (W.cell? ⟨rb, 3, none⟩ = some (.int .i64 v.T) ∧ W.cell? ⟨rb, 4, none⟩ = some (.int .u64 v.N) ∧ W.cell? ⟨rb, 5, none⟩ = some (.string ⟨v.S.toArray⟩)) := by
  obtain ⟨h1, h2, _⟩ := (h.same (hb.block _ h.lt)).cells
  exact ⟨h1, h2⟩
theorem op_cells {W : World} {b : Nat} {K A B C : Int} {S T : List UInt8} (h : W.heap[b]? = some (opO K A B C S T)) : W.cell? ⟨b, 0, none⟩ = some (.int .i64 K) ∧ W.cell? ⟨b, 1, none⟩ = some (.int .i64 A) ∧ W.cell? ⟨b, 2, none⟩ = some (.int .i64 B) ∧ W.cell? ⟨b, 3, none⟩ = some (.int .i64 C) ∧ W.cell? ⟨b, 4, none⟩ = some (.string ⟨S.toArray⟩) ∧ W.cell? ⟨b, 5, none⟩ = some (.string ⟨T.toArray⟩) := by
  simp [World.cell?, h]
theorem b_cells {W : World} {b : Nat} {nb mb : Value} (h : W.heap[b]? = some (bO nb mb)) : W.cell? ⟨b, 0, none⟩ = some nb ∧ W.cell? ⟨b, 1, none⟩ = some mb := by
  simp [World.cell?, h]
theorem ans_cells {W : World} {b : Nat} {E N : Int} {Z : List UInt8} (h : W.heap[b]? = some (ansO E N Z)) : W.cell? ⟨b, 0, none⟩ = some (.int .i64 E) ∧ W.cell? ⟨b, 1, none⟩ = some (.int .i64 N) ∧ W.cell? ⟨b, 2, none⟩ = some (.int .i64 0) ∧ W.cell? ⟨b, 3, none⟩ = some (.string ⟨Z.toArray⟩) ∧ W.cell? ⟨b, 4, none⟩ = some (.string ⟨#[]⟩) ∧ ∀ j, W.frozen? ⟨b, j, none⟩ = false := by
  simp [World.cell?, World.frozen?, h]
theorem v_cells {W : World} {b : Nat} {T : Int} {N : Nat} {S : List UInt8} (h : W.heap[b]? = some (vO ⟨T, N, S⟩)) : W.cell? ⟨b, 0, none⟩ = some (.int .i64 T) ∧ W.cell? ⟨b, 1, none⟩ = some (.int .u64 N) ∧ W.cell? ⟨b, 2, none⟩ = some (.string ⟨S.toArray⟩) := by
  simp [World.cell?, h]
theorem Ke.setbox {own : Nat → Nat} {W : World} {x g rb : Nat} {sr sg : List Tbl} {gs : Gs} {k v : V} (h : Ke own W x g rb sr sg gs k v) {b : Nat} (hb : own b = 0) (i : Nat) (u : Value) : Ke own (W.setCell ⟨b, i, none⟩ u) x g rb sr sg gs k v :=
  ⟨h.rs.kept (by simp) (fun j hj a _ => Below.heap_setCell _ _ _ _ (by rintro rfl; omega)) (fun _ _ => rfl), h.gh.kept (fun j hj a _ => Below.heap_setCell _ _ _ _ (by rintro rfl; omega)) (fun _ _ => rfl), h.rg.same (Below.heap_setCell _ _ _ _ (by rintro rfl; have := h.rc; omega)), h.rc⟩
set_option maxRecDepth 8000 in
set_option maxHeartbeats 3200000 in
theorem kept_any (own : Nat → Nat) (x g rb : Nat) (nb mb : Value) (st : List Tbl) (gs : Gs) (k v : V) (K A B C : Int) (S T : List UInt8) (w : World) (H : Ke own w x g rb st st gs k v) (hk : k.Ok) (hv : v.Ok) (iA : I64 A) (iB : I64 B) (lS : S.length ≤ 9223372036854775807) :
    Calls Try.prog 10 #[.pointer (some ⟨x, 0, none⟩), .agg #[nb, mb], .pointer (some ⟨g, 0, none⟩), .pointer (some ⟨rb, 0, none⟩), opV K A B C S T] w fun e w' => e = .returned (.bool true) ∧ KeEnd own w x g rb w' := by
  have hG := H.rs.good
  have hm := H.gh.max
  have hrel := H.gh.rel
  have hl := gs_len hrel hG hm
  have HE : Hid (Ke (cut own w.heap.size) w x g rb st st gs k v) := H.cut (Nat.le_refl _)
  have lr := H.rg.lt
  have lg := H.gh.lt
  obtain ⟨ad, cp, hrow⟩ := H.gh.row
  have HR : Hid (GRow w g st gs ad cp) := hrow
  have HREG : Hid (RegAt w rb k v) := H.rg
  have HONE := fun w => oneKey_any k w hk.N
  have HFND := fun W (hb : Below w.heap.size w W) => gfind_any g st gs ad cp A (oneV k) W (hrow.below hb) hl
  have HOWE := fun W (hb : Below w.heap.size w W) => owes_any g st gs ad cp K A B C S T (oneV k) v (findG gs A (oneV k)) W (hrow.below hb) hm hG (oneV_ok hk) hv
  rw [owes_eq hrel hG k v K A B S] at HOWE
  have HOWD := fun W (hb : Below w.heap.size w W) => owed_any nb mb g st gs ad cp k v K A B C S T W (hrow.below hb) hrel hG hl
  have HDO := fun W (h : Ke (cut own w.heap.size) W x g rb st st gs k v) => do_R (cut own w.heap.size) x rb st k v K A B C S T W h.rs h.rs.good h.rg h.rc hk hv iA iB lS
  have HSH := fun W (h : Ke (cut own w.heap.size) W x g rb st st gs k v) => rshow (cut own w.heap.size) x st W h.rs h.rs.good
  obtain ⟨s1, hs1⟩ : ∃ q, q = showT st := ⟨_, rfl⟩
  rw [← hs1] at HSH
  have HS1 : Hid (s1 = showT st) := hs1
  clear hs1
  obtain ⟨hko, hvo⟩ := doP_ok hG hk hv K (A := A) (B := B) (S := S) iA lS
  have HKV : Hid ((doP st k v K A B S).k.Ok ∧ (doP st k v K A B S).v.Ok) := ⟨hko, hvo⟩
  have HGR : Hid (GRel st gs ∧ GoodSt st) := ⟨hrel, hG⟩
  obtain ⟨at', hat⟩ : ∃ a, a = findG gs A (oneV k) := ⟨_, rfl⟩
  rw [← hat] at HFND HOWE HOWD
  have HAT : Hid (at' = findG gs A (oneV k)) := hat
  obtain ⟨o, ho⟩ : ∃ o, o = doP st k v K A B S := ⟨_, rfl⟩
  rw [← ho] at HOWE HOWD HDO HKV
  have HO : Hid (o = doP st k v K A B S) := ho
  obtain ⟨k1, hk1⟩ : ∃ q, q = oneV k := ⟨_, rfl⟩
  rw [← hk1] at HONE HFND HOWE
  have HK1 : Hid (k1 = oneV k) := hk1
  obtain ⟨⟨r0, r1, r2⟩, r3, r4, r5⟩ := reg_all H.rg (Below.refl _ _)
  have HW0 : Hid (Bx ((w.alloc (bO nb mb)).alloc (opO K A B C S T)) [(w.heap.size + 1, opO K A B C S T), (w.heap.size, bO nb mb)] ∧ Below w.heap.size w ((w.alloc (bO nb mb)).alloc (opO K A B C S T))) := by
    have h := ((Bx.nil (W := w)).add (bO nb mb)).add (opO K A B C S T)
    rw [World.size_alloc] at h
    exact ⟨h, below_two (below_one _ _) (below_one _ _)⟩
  clear H hrow hk hv iA iB lS hko hvo hrel hG hat ho hk1
  have nr : ¬ rb = w.heap.size := by omega
  have nr1 : ¬ rb = w.heap.size + 1 := by omega
  obtain ⟨kT, kN, kS⟩ := k
  obtain ⟨vT, vN, vS⟩ := v
  obtain ⟨cT, cN, cS⟩ := k1
  rw [opV_mk] at *
  simp only [valV_mk, opV_mk] at HONE HFND HOWE HOWD HDO ⊢
  simp only at r0 r1 r2 r3 r4 r5
  go_enter Try.func10, Try.ntmps10
  go_wp2_with fail
  refine (HONE _).mono ?_; rintro e w1 ⟨rfl, hb1⟩
  have HX1 : Hid (Bx w1 [(w.heap.size + 1, opO K A B C S T), (w.heap.size, bO nb mb)] ∧ Below w.heap.size w w1) := ⟨HW0.out.1.below hb1, below_two HW0.out.2 hb1⟩
  obtain ⟨_, s3, s4, s5⟩ := reg_all HREG.out (below_two HX1.out.2 (below_one w1 (vO ⟨cT, cN, cS⟩)))
  simp only at s3 s4 s5
  have l1 : w.heap.size + 1 < w1.heap.size := HX1.out.1.lt (e := (w.heap.size + 1, opO K A B C S T)) (by simp)
  have n1 : ¬ rb = w1.heap.size := by omega
  have HX2 : Hid (Bx ((w1.alloc (vO ⟨cT, cN, cS⟩)).alloc (vO ⟨vT, vN, vS⟩)) [(w1.heap.size + 1, vO ⟨vT, vN, vS⟩), (w1.heap.size, vO ⟨cT, cN, cS⟩), (w.heap.size + 1, opO K A B C S T), (w.heap.size, bO nb mb)] ∧ Below w.heap.size w ((w1.alloc (vO ⟨cT, cN, cS⟩)).alloc (vO ⟨vT, vN, vS⟩))) := by
    have h := (HX1.out.1.add (vO ⟨cT, cN, cS⟩)).add (vO ⟨vT, vN, vS⟩)
    rw [World.size_alloc] at h
    exact ⟨h, below_two HX1.out.2 (below_two (below_one _ _) (below_one _ _))⟩
  have o1 : ((w1.alloc (vO ⟨cT, cN, cS⟩)).alloc (vO ⟨vT, vN, vS⟩)).cell? ⟨w.heap.size + 1, 1, none⟩ = some (.int .i64 A) := by
    have := HX2.out.1 (w.heap.size + 1, opO K A B C S T) (by simp)
    simp only [World.cell?, this]
    rfl
  clear hb1 r0 r1 r2 r3 r4 r5 HONE
  go_wp2_with fail
  refine (HFND _ HX2.out.2).mono ?_; rintro e w2 ⟨rfl, hb2⟩
  have HX3 : Hid (Bx w2 [(w1.heap.size + 1, vO ⟨vT, vN, vS⟩), (w1.heap.size, vO ⟨cT, cN, cS⟩), (w.heap.size + 1, opO K A B C S T), (w.heap.size, bO nb mb)] ∧ Below w.heap.size w w2) := ⟨HX2.out.1.below hb2, below_two HX2.out.2 hb2⟩
  obtain ⟨p0, p1, p2, p3, p4, p5⟩ := op_cells (HX3.out.1 (w.heap.size + 1, opO K A B C S T) (by simp))
  obtain ⟨c0, c1, c2⟩ := v_cells (HX3.out.1 (w1.heap.size, vO ⟨cT, cN, cS⟩) (by simp))
  obtain ⟨d0, d1, d2⟩ := v_cells (HX3.out.1 (w1.heap.size + 1, vO ⟨vT, vN, vS⟩) (by simp))
  clear hb2 o1 s3 s4 s5 HX2 HX1 HFND
  go_wp2_with fail
  refine (HOWE _ HX3.out.2).mono ?_; rintro e w3 ⟨rfl, hb3⟩
  have HX4 : Hid (Bx w3 [(w1.heap.size + 1, vO ⟨vT, vN, vS⟩), (w1.heap.size, vO ⟨cT, cN, cS⟩), (w.heap.size + 1, opO K A B C S T), (w.heap.size, bO nb mb)] ∧ Below w.heap.size w w3) := ⟨HX3.out.1.below hb3, below_two HX3.out.2 hb3⟩
  clear p0 p1 p2 p3 p4 p5 c0 c1 c2 d0 d1 d2 hb3 HX3 HOWE
  obtain ⟨p0, p1, p2, p3, p4, p5⟩ := op_cells (HX4.out.1 (w.heap.size + 1, opO K A B C S T) (by simp))
  obtain ⟨b0, b1⟩ := b_cells (HX4.out.1 (w.heap.size, bO nb mb) (by simp))
  go_wp2_with fail
  refine (HOWD _ HX4.out.2).mono ?_; rintro e w4 ⟨rfl, hb4⟩
  have HX5 : Hid (Bx w4 [(w1.heap.size + 1, vO ⟨vT, vN, vS⟩), (w1.heap.size, vO ⟨cT, cN, cS⟩), (w.heap.size + 1, opO K A B C S T), (w.heap.size, bO nb mb)] ∧ Below w.heap.size w w4) := ⟨HX4.out.1.below hb4, below_two HX4.out.2 hb4⟩
  clear p0 p1 p2 p3 p4 p5 b0 b1 hb4 HX4 HOWD
  obtain ⟨Z0, hZ0⟩ : ∃ z, z = (if K = 11 then [] else o.Z) := ⟨_, rfl⟩
  have HZ0 : Hid (Z0 = if K = 11 then [] else o.Z) := hZ0
  rw [← hZ0]
  rw [show ansV o.E o.N Z0 = .agg #[.int .i64 o.E, .int .i64 o.N, .int .i64 0, .string ⟨Z0.toArray⟩, .string ⟨#[]⟩] from rfl]
  have HX6 : Hid (Bx (w4.alloc (ansO o.E o.N Z0)) ((w4.heap.size, ansO o.E o.N Z0) :: [(w1.heap.size + 1, vO ⟨vT, vN, vS⟩), (w1.heap.size, vO ⟨cT, cN, cS⟩), (w.heap.size + 1, opO K A B C S T), (w.heap.size, bO nb mb)]) ∧ Below w.heap.size w (w4.alloc (ansO o.E o.N Z0))) := ⟨HX5.out.1.add _, below_two HX5.out.2 (below_one _ _)⟩
  have HE6 : Hid (Ke (cut own w.heap.size) (w4.alloc (ansO o.E o.N Z0)) x g rb st st gs ⟨kT, kN, kS⟩ ⟨vT, vN, vS⟩) := HE.out.below HX6.out.2
  clear hZ0
  go_wp2_with fail
  refine (HSH _ HE6.out).mono ?_; rintro e w5 ⟨rfl, hb5⟩
  have HX7 : Hid (Bx w5 ((w4.heap.size, ansO o.E o.N Z0) :: [(w1.heap.size + 1, vO ⟨vT, vN, vS⟩), (w1.heap.size, vO ⟨cT, cN, cS⟩), (w.heap.size + 1, opO K A B C S T), (w.heap.size, bO nb mb)]) ∧ Below w.heap.size w w5) := ⟨HX6.out.1.below hb5, below_two HX6.out.2 hb5⟩
  have HE7 : Hid (Ke (cut own w.heap.size) w5 x g rb st st gs ⟨kT, kN, kS⟩ ⟨vT, vN, vS⟩) := HE6.out.below hb5
  obtain ⟨p0, p1, p2, p3, p4, p5⟩ := op_cells (HX7.out.1 (w.heap.size + 1, opO K A B C S T) (by simp))
  have l4 : w1.heap.size + 1 < w4.heap.size := HX5.out.1.lt (e := (w1.heap.size + 1, vO ⟨vT, vN, vS⟩)) (by simp)
  have l5 : w4.heap.size < w5.heap.size := HX7.out.1.lt (e := (w4.heap.size, ansO o.E o.N Z0)) (by simp)
  clear hb5 HX6 HE6 HX5
  go_wp2_with fail
  refine (HDO _ HE7.out).mono ?_; rintro e w6 ⟨rfl, hd6⟩
  obtain ⟨own1, ho1, hke1, hch1⟩ := HE7.out.done hd6
  have HB67 : Hid (∀ j, w.heap.size ≤ j → j < w5.heap.size → w6.heap[j]? = w5.heap[j]?) := fun j h1 h2 => hch1.2.2.2.2 j h2 (by rw [cut_high h1]; omega) (by rw [cut_high h1]; omega)
  have hs6 : w5.heap.size ≤ w6.heap.size := hch1.2.2.2.1
  have HX8 : Hid (Bx w6 ((w4.heap.size, ansO o.E o.N Z0) :: [(w1.heap.size + 1, vO ⟨vT, vN, vS⟩), (w1.heap.size, vO ⟨cT, cN, cS⟩), (w.heap.size + 1, opO K A B C S T), (w.heap.size, bO nb mb)])) := by
    refine HX7.out.1.kept (fun e he => HB67.out e.1 ?_ (HX7.out.1.lt he))
    simp at he
    rcases he with rfl | rfl | rfl | rfl | rfl <;> dsimp only <;> omega
  have HC8 : Hid (ChgK own w w6) := by
    have h5 := HX7.out.2
    refine ⟨hch1.1.trans h5.os, hch1.2.1.trans h5.tape, hch1.2.2.1.trans h5.output, by have := h5.size; omega, fun j hj hz => ?_⟩
    have := h5.size
    refine (hch1.2.2.2.2 j (by omega) ?_ ?_).trans (h5.block j hj)
    · rw [cut_low hj]; omega
    · rw [cut_low hj]; omega
  obtain ⟨own2, hown2⟩ : ∃ q, q = cut own1 w6.heap.size := ⟨_, rfl⟩
  have HO2 : Hid ((∀ j, j < w.heap.size → own2 j = own j) ∧ (∀ j, w.heap.size ≤ j → j < w5.heap.size → own2 j = 0) ∧ ∀ j, w6.heap.size ≤ j → own2 j = 0) := by
    have h5 := HX7.out.2.size
    rw [hown2]
    refine ⟨fun j hj => ?_, fun j h1 h2 => ?_, fun j hj => cut_high hj⟩
    · rw [cut_low (by omega), ho1 j (by omega), cut_low hj]
    · rw [cut_low (by omega), ho1 j h2, cut_high h1]
  have hke2 : Ke own2 w6 x g rb o.st st gs o.k o.v := by rw [hown2]; exact hke1.cut (Nat.le_refl _)
  have HE8 : Hid (Ke own2 (w6.alloc (ansO o.E o.N o.Z)) x g rb o.st st gs o.k o.v) := hke2.below (below_one _ _)
  have HX9 : Hid (Bx (w6.alloc (ansO o.E o.N o.Z)) ((w6.heap.size, ansO o.E o.N o.Z) :: (w4.heap.size, ansO o.E o.N Z0) :: [(w1.heap.size + 1, vO ⟨vT, vN, vS⟩), (w1.heap.size, vO ⟨cT, cN, cS⟩), (w.heap.size + 1, opO K A B C S T), (w.heap.size, bO nb mb)]) ∧ ChgK own w (w6.alloc (ansO o.E o.N o.Z))) := ⟨HX8.out.add _, HC8.out.below (below_one _ _)⟩
  have HSH2 := fun W (h : Ke own2 W x g rb o.st st gs o.k o.v) => rshow own2 x o.st W h.rs h.rs.good
  obtain ⟨s2, hs2⟩ : ∃ q, q = showT o.st := ⟨_, rfl⟩
  rw [← hs2] at HSH2
  have HS2 : Hid (s2 = showT o.st) := hs2
  clear hs2
  rw [show ansV o.E o.N o.Z = .agg #[.int .i64 o.E, .int .i64 o.N, .int .i64 0, .string ⟨o.Z.toArray⟩, .string ⟨#[]⟩] from rfl]
  clear hd6 ho1 hke1 hch1 hown2 hke2 p0 p1 p2 p3 p4 p5 HX8 HC8 HX7 HE7 HB67 HDO HSH
  go_wp2_with fail
  refine (HSH2 _ HE8.out).mono ?_; rintro e w7 ⟨rfl, hb7⟩
  have HX10 : Hid (Bx w7 ((w6.heap.size, ansO o.E o.N o.Z) :: (w4.heap.size, ansO o.E o.N Z0) :: [(w1.heap.size + 1, vO ⟨vT, vN, vS⟩), (w1.heap.size, vO ⟨cT, cN, cS⟩), (w.heap.size + 1, opO K A B C S T), (w.heap.size, bO nb mb)]) ∧ ChgK own w w7) := ⟨HX9.out.1.below hb7, HX9.out.2.below hb7⟩
  have HE9 : Hid (Ke own2 w7 x g rb o.st st gs o.k o.v) := HE8.out.below hb7
  clear hb7 HX9 HE8
  obtain ⟨p0, p1, p2, p3, p4, p5⟩ := op_cells (HX10.out.1 (w.heap.size + 1, opO K A B C S T) (by simp))
  obtain ⟨a0, a1, a2, a3, a4, af⟩ := ans_cells (HX10.out.1 (w4.heap.size, ansO o.E o.N Z0) (by simp))
  go_upto_if 62 with fail
  go_cut [16] from 63 to 64 (fun s wx => s = .string ⟨s1.toArray⟩ ∧ Hid (Ke own2 wx x g rb o.st st gs o.k o.v ∧ Bx wx ((w6.heap.size, ansO o.E o.N o.Z) :: (w4.heap.size, ansO o.E o.N o.Z) :: [(w1.heap.size + 1, vO ⟨vT, vN, vS⟩), (w1.heap.size, vO ⟨cT, cN, cS⟩), (w.heap.size + 1, opO K A B C S T), (w.heap.size, bO nb mb)]) ∧ ChgK own w wx))
  case first =>
    by_cases h11 : K = 11
    · have b11 : (K == 11) = true := by simpa using h11
      have hZ : o.Z = s1 := by rw [HO.out, h11, HS1.out]; rfl
      have HEND : Hid (Ke own2 (w7.setCell ⟨w4.heap.size, 3, none⟩ (.string ⟨s1.toArray⟩)) x g rb o.st st gs o.k o.v ∧ Bx (w7.setCell ⟨w4.heap.size, 3, none⟩ (.string ⟨s1.toArray⟩)) ((w6.heap.size, ansO o.E o.N o.Z) :: (w4.heap.size, ansO o.E o.N o.Z) :: [(w1.heap.size + 1, vO ⟨vT, vN, vS⟩), (w1.heap.size, vO ⟨cT, cN, cS⟩), (w.heap.size + 1, opO K A B C S T), (w.heap.size, bO nb mb)]) ∧ ChgK own w (w7.setCell ⟨w4.heap.size, 3, none⟩ (.string ⟨s1.toArray⟩))) := by
        have hlt : w4.heap.size ≥ w.heap.size := by omega
        refine ⟨HE9.out.setbox (HO2.out.2.1 _ hlt l5) 3 _, ?_, ?_⟩
        · intro e he
          have hq := HX10.out.1 (w4.heap.size, ansO o.E o.N Z0) (by simp)
          simp at he
          by_cases hb : e.1 = w4.heap.size
          · rcases he with rfl | rfl | rfl | rfl | rfl | rfl <;> dsimp only at hb ⊢ <;> try omega
            rw [heap_setCell_same hq, hZ]
            rfl
          · rw [Below.heap_setCell _ _ _ _ hb]
            refine HX10.out.1 e ?_
            simp
            rcases he with rfl | rfl | rfl | rfl | rfl | rfl
            · simp
            · exact absurd rfl hb
            · simp
            · simp
            · simp
            · simp
        · have h10 := HX10.out.2
          exact ⟨h10.os, h10.tape, h10.output, by simpa using h10.size, fun j hj hz => (Below.heap_setCell _ _ _ _ (by dsimp only; omega)).trans (h10.block j hj hz)⟩
      clear h11 hZ
      go_wp2_with fail
      go_meet
      case rel => exact ⟨rfl, HEND⟩
    · have b11 : (K == 11) = false := by simpa using h11
      have hZ : Z0 = o.Z := by rw [HZ0.out, if_neg h11]
      subst hZ
      clear h11
      go_wp2_with fail
      go_meet
      case rel => exact ⟨rfl, HE9.out, HX10.out.1, HX10.out.2⟩
  case rest =>
    obtain ⟨rfl, HW⟩ := hcut
    clear p0 p1 p2 p3 p4 p5 a0 a1 a2 a3 a4 af HX10 HE9 HZ0
    obtain ⟨p0, p1, p2, p3, p4, p5⟩ := op_cells (HW.out.2.1 (w.heap.size + 1, opO K A B C S T) (by simp))
    obtain ⟨a0, a1, a2, a3, a4, af⟩ := ans_cells (HW.out.2.1 (w4.heap.size, ansO o.E o.N o.Z) (by simp))
    obtain ⟨e0, e1, e2, e3, e4, ef⟩ := ans_cells (HW.out.2.1 (w6.heap.size, ansO o.E o.N o.Z) (by simp))
    obtain ⟨d0, d1, d2⟩ := v_cells (HW.out.2.1 (w1.heap.size + 1, vO ⟨vT, vN, vS⟩) (by simp))
    go_upto_region 13 with fail
    have HSAME : Hid (K ≠ 3 → K ≠ 4 → (K = 7 → at' = none ∧ vT = 0) → s1 = s2) := by
      intro h3 h4 h7
      rw [HS1.out, HS2.out, HO.out, quiet_same HGR.out.1 HGR.out.2 _ _ K A B S h3 h4 (fun h => by rw [← HAT.out]; exact h7 h)]
    have HERR : Hid (o.E ≠ 0 → s1 = s2) := by
      intro hE
      rw [HS1.out, HS2.out, HO.out, err_same _ _ _ _ _ _ _ (by rw [← HO.out]; exact hE)]
    have hp1 := plc_dec2 at'
    obtain ⟨pa, hpa⟩ : ∃ q, q = plc at' := ⟨_, rfl⟩
    go_cut [19] from 68 to 89 (fun tv wx => ∃ tb : Bool, tv = .bool tb ∧ Hid (tb = false → s1 = s2) ∧ wx = wc)
    case first =>
      by_cases h3 : K = 3
      · have b3 : (K == 3) = true := by simpa using h3
        clear h3 hp1 hpa
        go_wp2_with fail
        go_meet
        case rel => exact ⟨true, rfl, (fun h => by cases h), rfl⟩
      have b3 : (K == 3) = false := by simpa using h3
      by_cases h4 : K = 4
      · have b4 : (K == 4) = true := by simpa using h4
        clear h3 h4 hp1 hpa
        go_wp2_with fail
        go_meet
        case rel => exact ⟨true, rfl, (fun h => by cases h), rfl⟩
      have b4 : (K == 4) = false := by simpa using h4
      by_cases h7 : K = 7
      · have b7 : (K == 7) = true := by simpa using h7
        cases hat : decide (at' = none)
        · have hp2 : decide ((0 : Int) ≤ plc at') = true := by rw [hp1, hat]; rfl
          clear hp1 hpa h3 h4 h7
          go_wp2_with fail
          go_meet
          case rel => exact ⟨true, rfl, (fun h => by cases h), rfl⟩
        · have hp2 : decide ((0 : Int) ≤ plc at') = false := by rw [hp1, hat]; rfl
          have hat := of_decide_eq_true hat
          by_cases hz : vT = 0
          · have bz : (vT != 0) = false := by simp [hz]
            have HSS : Hid (s1 = s2) := HSAME.out h3 h4 (fun _ => ⟨hat, hz⟩)
            clear hp1 hpa h3 h4 h7 hz hat
            go_wp2_with fail
            go_meet
            case rel => exact ⟨false, rfl, (fun _ => HSS.out), rfl⟩
          · have bz : (vT != 0) = true := by simpa using hz
            clear hp1 hpa h3 h4 h7 hz hat
            go_wp2_with fail
            go_meet
            case rel => exact ⟨true, rfl, (fun h => by cases h), rfl⟩
      have b7 : (K == 7) = false := by simpa using h7
      have HSS : Hid (s1 = s2) := HSAME.out h3 h4 (fun h => absurd h h7)
      clear h3 h4 h7 hp1 hpa
      go_wp2_with fail
      go_meet
      case rel => exact ⟨false, rfl, (fun _ => HSS.out), rfl⟩
    case rest =>
      obtain ⟨tb, rfl, HTB, rfl⟩ := hcut
      go_upto_region 14 with fail
      go_cut [14, 16, 18, 100] from 26 to 100 (fun ev sa sb c wx => ev = .int .i64 o.E ∧ sa = .string ⟨s1.toArray⟩ ∧ sb = .string ⟨s2.toArray⟩ ∧ c = .bool false ∧ wx = wc)
      case first =>
        by_cases hE : o.E = 0
        · have bE : (o.E != 0) = false := by simp [hE]
          have HEH : Hid (o.E = 0) := hE
          clear hE hp1 hpa
          cases tb
          · have hss := HTB.out rfl
            have HSS : Hid (s1 = s2) := hss
            go_wp2_with fail
            go_meet
            case rel => exact ⟨by first | rfl | rw [HEH.out], by first | rfl | rw [HSS.out], by first | rfl | rw [HSS.out], rfl, rfl⟩
          · go_wp2_with fail
            go_meet
            case rel => exact ⟨by first | rfl | rw [HEH.out], rfl, rfl, rfl, rfl⟩
        · have bE : (o.E != 0) = true := by simpa using hE
          have hss := HERR.out hE
          have HSS : Hid (s1 = s2) := hss
          clear hE hp1 hpa
          cases tb
          · go_wp2_with fail
            go_meet
            case rel => exact ⟨rfl, by first | rfl | rw [HSS.out], by first | rfl | rw [HSS.out], rfl, rfl⟩
          · go_wp2_with fail
            go_meet
            case rel => exact ⟨rfl, by first | rfl | rw [HSS.out], by first | rfl | rw [HSS.out], rfl, rfl⟩
      case rest =>
        obtain ⟨rfl, rfl, rfl, rfl, rfl⟩ := hcut
        clear hp1 hpa
        obtain ⟨c0, c1, c2⟩ := v_cells (HW.out.2.1 (w1.heap.size, vO ⟨cT, cN, cS⟩) (by simp))
        go_upto_if 102 with fail
        go_cut [14] from 26 to 108 (fun ev wx => ev = .int .i64 o.E ∧ Hid (∃ own3 gs', (∀ j, j < w.heap.size → own3 j = own j) ∧ Ke own3 wx x g rb o.st o.st gs' o.k o.v ∧ Bx wx ((w6.heap.size, ansO o.E o.N o.Z) :: (w4.heap.size, ansO o.E o.N o.Z) :: [(w1.heap.size + 1, vO ⟨vT, vN, vS⟩), (w1.heap.size, vO ⟨cT, cN, cS⟩), (w.heap.size + 1, opO K A B C S T), (w.heap.size, bO nb mb)]) ∧ ChgK own w wx))
        case first =>
          by_cases hE : o.E = 0
          · have bE : (o.E == 0) = true := by simpa using hE
            have HTU := gturn_any own2 g st gs ⟨kT, kN, kS⟩ ⟨vT, vN, vS⟩ K A B C S T wc HW.out.1.gh HGR.out.2 (by rw [← HO.out]; exact hE)
            rw [← HO.out, ← HAT.out, ← HK1.out] at HTU
            simp only [valV_mk, opV_mk] at HTU
            have HEH : Hid (o.E = 0) := hE
            clear hE
            go_wp2_with fail
            refine HTU.mono ?_; rintro e w8 ⟨rfl, hg8⟩
            have HEND : Hid (∃ own3 gs', (∀ j, j < w.heap.size → own3 j = own j) ∧ Ke own3 w8 x g rb o.st o.st gs' o.k o.v ∧ Bx w8 ((w6.heap.size, ansO o.E o.N o.Z) :: (w4.heap.size, ansO o.E o.N o.Z) :: [(w1.heap.size + 1, vO ⟨vT, vN, vS⟩), (w1.heap.size, vO ⟨cT, cN, cS⟩), (w.heap.size + 1, opO K A B C S T), (w.heap.size, bO nb mb)]) ∧ ChgK own w w8) := by
              obtain ⟨own3, h1, h2, h3⟩ := HW.out.1.turned hg8
              have hcw := HW.out.2.2
              refine ⟨own3, _, fun j hj => (h1 j (Nat.lt_of_lt_of_le hj hcw.size)).trans (HO2.out.1 j hj), h2, HW.out.2.1.kept (fun e he => h3.block e.1 (HW.out.2.1.lt he) ?_), ?_⟩
              · simp at he
                have hz : own2 e.1 = 0 := by
                  rcases he with rfl | rfl | rfl | rfl | rfl | rfl
                  · exact HO2.out.2.2 _ (Nat.le_refl _)
                  all_goals exact HO2.out.2.1 _ (by dsimp only; omega) (by dsimp only; omega)
                omega
              · exact ⟨h3.os.trans hcw.os, h3.tape.trans hcw.tape, h3.output.trans hcw.output, Nat.le_trans hcw.size h3.size, fun j hj hz => (h3.block j (Nat.lt_of_lt_of_le hj hcw.size) (by rw [HO2.out.1 j hj]; omega)).trans (hcw.block j hj hz)⟩
            clear hg8
            go_wp2_with fail
            go_meet
            case rel => exact ⟨by first | rfl | rw [HEH.out], HEND⟩
          · have bE : (o.E == 0) = false := by simpa using hE
            have HEND : Hid (∃ own3 gs', (∀ j, j < w.heap.size → own3 j = own j) ∧ Ke own3 wc x g rb o.st o.st gs' o.k o.v ∧ Bx wc ((w6.heap.size, ansO o.E o.N o.Z) :: (w4.heap.size, ansO o.E o.N o.Z) :: [(w1.heap.size + 1, vO ⟨vT, vN, vS⟩), (w1.heap.size, vO ⟨cT, cN, cS⟩), (w.heap.size + 1, opO K A B C S T), (w.heap.size, bO nb mb)]) ∧ ChgK own w wc) := by
              have hst : o.st = st := by rw [HO.out]; exact err_same _ _ _ _ _ _ _ (by rw [← HO.out]; exact hE)
              refine ⟨own2, gs, HO2.out.1, ?_, HW.out.2.1, HW.out.2.2⟩
              have := HW.out.1
              rw [hst] at this ⊢
              exact this
            clear hE
            go_wp2_with fail
            go_meet
            case rel => exact ⟨rfl, HEND⟩
        case rest =>
          obtain ⟨rfl, HF⟩ := hcut
          obtain ⟨own3, gs3, ho3, hke3, hbx3, hck3⟩ := HF.out
          have hG3 := hke3.rs.good
          have hm3 := hke3.gh.max
          have hrel3 := hke3.gh.rel
          have hl3 := gs_len hrel3 hG3 hm3
          obtain ⟨ad3, cp3, hrow3⟩ := hke3.gh.row
          have HR3 : Hid (GRow wc g o.st gs3 ad3 cp3) := hrow3
          have HS3 : Hid (RS own3 wc x o.st) := hke3.rs
          have HCN := fun W (h : RS own3 W x o.st) => rcount own3 x o.st W h h.good
          have HSN := fun W (h : GRow W g o.st gs3 ad3 cp3) => shown_any g o.st gs3 ad3 cp3 W h hrel3 hG3 hm3
          have HCH := fun W (h : RS own3 W x o.st) => rcheck own3 x o.st W h h.good
          have HSH3 := fun W (h : RS own3 W x o.st) => rshow own3 x o.st W h h.good
          rw [← HS2.out] at HSN HSH3
          have HBL : Hid (∀ W, Below wc.heap.size wc W → W.heap[w.heap.size + 1]? = some (opO K A B C S T) ∧ W.heap[w.heap.size]? = some (bO nb mb) ∧ GRow W g o.st gs3 ad3 cp3 ∧ RS own3 W x o.st ∧ KeEnd own w x g rb W) := by
            intro W hb
            have hx := hbx3.below hb
            exact ⟨hx (w.heap.size + 1, opO K A B C S T) (by simp), hx (w.heap.size, bO nb mb) (by simp), hrow3.below hb, hke3.rs.below hb, own3, o.st, gs3, o.k, o.v, ho3, hke3.below hb, HKV.out.1, HKV.out.2, hck3.below hb⟩
          have HHD : 0 ≤ A → A < (o.st.length : Int) → ∀ W, GRow W g o.st gs3 ad3 cp3 → RS own3 W x o.st → Calls Try.prog 25 #[.pointer (some ⟨x, 0, none⟩), .agg #[nb, mb], .pointer (some ⟨g, 0, none⟩), .int .i64 A] W fun e w' => e = .returned (.bool true) ∧ Below W.heap.size W w' := by
            intro hA0 hA1 W h1 h2
            obtain ⟨a, rfl⟩ : ∃ a : Nat, A = (a : Int) := ⟨A.toNat, by omega⟩
            obtain ⟨t, ht, _⟩ := st_at (st := o.st) (h := a) (by omega)
            exact held_any own3 x g a nb mb o.st gs3 ad3 cp3 t W h2 h1 hrel3 hl3 ht
          obtain ⟨sl, hsl⟩ : ∃ n, n = o.st.length := ⟨_, rfl⟩
          rw [← hsl] at HHD HCN hm3
          have HSL : Hid (sl = o.st.length) := hsl
          clear p0 p1 p2 p3 p4 p5 a0 a1 a2 a3 a4 af e0 e1 e2 e3 e4 ef d0 d1 d2 c0 c1 c2 HF hke3 hbx3 hck3 hrow3 HW HO2 HSH2 hG3 hrel3 ho3 hsl
          go_wp2_with fail
          refine (HCN _ HS3.out).mono ?_; rintro e w9 ⟨rfl, rfl⟩
          clear HCN
          go_wp2_with fail
          refine (HSN _ HR3.out).mono ?_; rintro e w10 ⟨rfl, hb10⟩
          have HB10 : Hid (Below w9.heap.size w9 w10) := hb10
          obtain ⟨x1, x2, x3, x4, x5⟩ := HBL.out w10 hb10
          obtain ⟨p0, p1, p2, p3, p4, p5⟩ := op_cells x1
          obtain ⟨b0, b1⟩ := b_cells x2
          have g0 := x3.c0
          rw [← HSL.out] at g0
          clear x1 x2 x3 x4 x5 hb10 HSN
          have HFIN : Hid (∀ W, Below w9.heap.size w9 W → KeEnd own w x g rb W) := fun W hb => (HBL.out W hb).2.2.2.2
          by_cases hA0 : 0 ≤ A
          · have dA : decide (0 ≤ A) = true := decide_eq_true hA0
            by_cases hA1 : A < (sl : Int)
            · have dB : decide (A < (sl : Int)) = true := decide_eq_true hA1
              have HHD := HHD hA0 hA1
              clear hA0 hA1
              go_wp2_with fail
              go_quiet (fail)
              go_wp2_with fail
              have HB11 : Hid (Below w9.heap.size w9 (w10.drewN nq)) := below_drewN HB10.out _
              have HS11 : Hid (RS own3 (w10.drewN nq) x o.st) := (HBL.out _ HB11.out).2.2.2.1
              have HR11 : Hid (GRow (w10.drewN nq) g o.st gs3 ad3 cp3) := (HBL.out _ HB11.out).2.2.1
              refine (HHD _ HR11.out HS11.out).mono ?_; rintro e w14 ⟨rfl, hb14⟩
              have HB14 : Hid (Below w9.heap.size w9 w14) := below_two HB11.out hb14
              obtain ⟨x1, x2, x3, x4, _⟩ := HBL.out w14 HB14.out
              clear p0 p1 p2 p3 p4 p5 b0 b1
              obtain ⟨p0, p1, p2, p3, p4, p5⟩ := op_cells x1
              obtain ⟨b0, b1⟩ := b_cells x2
              have HRS14 : Hid (GRow w14 g o.st gs3 ad3 cp3 ∧ RS own3 w14 x o.st) := ⟨x3, x4⟩
              clear hb14 x1 x2 x3 x4
              go_wp2_with fail
              refine (HHD _ HRS14.out.1 HRS14.out.2).mono ?_; rintro e w15 ⟨rfl, hb15⟩
              have HB15 : Hid (Below w9.heap.size w9 w15) := below_two HB14.out hb15
              have HS15 : Hid (RS own3 w15 x o.st) := (HBL.out _ HB15.out).2.2.2.1
              clear hb15
              go_wp2_with fail
              refine (HCH _ HS15.out).mono ?_; rintro e w16 ⟨rfl, hb16⟩
              have HB16 : Hid (Below w9.heap.size w9 w16) := below_two HB15.out hb16
              have HS16 : Hid (RS own3 w16 x o.st) := (HBL.out _ HB16.out).2.2.2.1
              clear hb16
              go_wp2_with fail
              refine (HSH3 _ HS16.out).mono ?_; rintro e w17 ⟨rfl, hb17⟩
              have HB17 : Hid (KeEnd own w x g rb w17) := HFIN.out _ (below_two HB16.out hb17)
              clear hb17
              go_wp2
              go_ret
              exact ⟨rfl, HB17.out⟩
            · have dB : decide (A < (sl : Int)) = false := decide_eq_false hA1
              clear hA0 hA1 HHD
              go_wp2_with fail
              go_quiet (fail)
              go_wp2_with fail
              have HB11 : Hid (Below w9.heap.size w9 (w10.drewN nq)) := below_drewN HB10.out _
              have HS11 : Hid (RS own3 (w10.drewN nq) x o.st) := (HBL.out _ HB11.out).2.2.2.1
              refine (HCH _ HS11.out).mono ?_; rintro e w12 ⟨rfl, hb12⟩
              have HB12 : Hid (Below w9.heap.size w9 w12) := below_two HB11.out hb12
              have HS12 : Hid (RS own3 w12 x o.st) := (HBL.out _ HB12.out).2.2.2.1
              clear hb12
              go_wp2_with fail
              refine (HSH3 _ HS12.out).mono ?_; rintro e w13 ⟨rfl, hb13⟩
              have HB13 : Hid (KeEnd own w x g rb w13) := HFIN.out _ (below_two HB12.out hb13)
              clear hb13
              go_wp2
              go_ret
              exact ⟨rfl, HB13.out⟩
          · have dA : decide (0 ≤ A) = false := decide_eq_false hA0
            clear hA0 HHD
            go_wp2_with fail
            go_quiet (fail)
            go_wp2_with fail
            have HB11 : Hid (Below w9.heap.size w9 (w10.drewN nq)) := below_drewN HB10.out _
            have HS11 : Hid (RS own3 (w10.drewN nq) x o.st) := (HBL.out _ HB11.out).2.2.2.1
            refine (HCH _ HS11.out).mono ?_; rintro e w12 ⟨rfl, hb12⟩
            have HB12 : Hid (Below w9.heap.size w9 w12) := below_two HB11.out hb12
            have HS12 : Hid (RS own3 w12 x o.st) := (HBL.out _ HB12.out).2.2.2.1
            clear hb12
            go_wp2_with fail
            refine (HSH3 _ HS12.out).mono ?_; rintro e w13 ⟨rfl, hb13⟩
            have HB13 : Hid (KeEnd own w x g rb w13) := HFIN.out _ (below_two HB12.out hb13)
            clear hb13
            go_wp2
            go_ret
            exact ⟨rfl, HB13.out⟩
end Go.Proofs.Qxb6500292a
