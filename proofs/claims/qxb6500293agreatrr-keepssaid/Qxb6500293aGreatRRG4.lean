/-
  THE LAW: Loaded 26, Event 29.
-/
import Derived.Test.Qxb6500293aGreatRRG3
namespace Go.Proofs.Qxb6500293aGreatRR
open Go.RowKit
open Ieee (double)
set_option linter.unusedVariables false
set_option linter.unusedSimpArgs false

/-- What Load leaves, as the law looks at it. -/
structure LdL (S : List UInt8) (A : Int) (M : Mc) (e : Int) : Prop where
  ok : (e = 0 ∧ M.en = 0 ∧ (M.fuel : Int) = (if A < 0 then 0 else A) ∧ statusP M 0 = 1 ∧ M.out = [] ∧ S.length ≤ 32768 ∧ statusP M 1 = 0 ∧ showT M.tb ≠ []) ∨ ((e = 1 ∧ 32768 < S.length ∨ e = 11 ∧ S.length ≤ 32768) ∧ M.en = 21 ∧ M.fuel = 0 ∧ statusP M 0 = 0 ∧ M.out = [] ∧ statusP M 1 = 0 ∧ showT M.tb = [])
theorem load_law (S : List UInt8) (A : Int) : LdL S A (loadP S A).1 (loadP S A).2 := by
  unfold loadP
  split
  · rename_i h
    exact ⟨.inr ⟨.inl ⟨rfl, h⟩, rfl, rfl, rfl, rfl, rfl, rfl⟩⟩
  rename_i h
  split
  · exact ⟨.inr ⟨.inr ⟨rfl, by omega⟩, rfl, rfl, rfl, rfl, rfl, rfl⟩⟩
  · obtain ⟨_, _, _, _, _, _, w6, _, _⟩ := decode_wipe S
    refine ⟨.inl ⟨rfl, rfl, ?_, rfl, w6, by omega, rfl, ?_⟩⟩
    · show ((A.toNat : Nat) : Int) = _
      split <;> omega
    · show showT globT ≠ []
      rw [globT_eq]
      simp [showT, tabL]
theorem box3 (W : World) (o1 o2 o3 : Obj) : (((W.alloc o1).alloc o2).alloc o3).heap[W.heap.size]? = some o1 ∧ (((W.alloc o1).alloc o2).alloc o3).heap[W.heap.size + 1]? = some o2 ∧ (((W.alloc o1).alloc o2).alloc o3).heap[W.heap.size + 1 + 1]? = some o3 ∧ Below W.heap.size W (((W.alloc o1).alloc o2).alloc o3) := by
  refine ⟨?_, ?_, ?_, below_two (below_two (below_one _ _) (below_one _ _)) (below_one _ _)⟩
  · simp only [alloc_at, World.size_alloc]
    rw [if_neg (show ¬ W.heap.size = W.heap.size + 1 + 1 by omega), if_neg (show ¬ W.heap.size = W.heap.size + 1 by omega), if_pos trivial]
  · simp only [alloc_at, World.size_alloc]
    rw [if_neg (show ¬ W.heap.size + 1 = W.heap.size + 1 + 1 by omega), if_pos trivial]
  · simp only [alloc_at, World.size_alloc]
    rw [if_pos trivial]
abbrev sO (m nb tp : Nat) : Obj := .cells #[.pointer (some ⟨m, 0, none⟩), .pointer (some ⟨nb, 0, none⟩), .pointer (some ⟨tp, 0, none⟩)] 29
set_option maxRecDepth 8000 in
set_option maxHeartbeats 1600000 in
theorem loaded_any {own : Nat → Nat} {W : World} {m a nb tp : Nat} {M : Mc} (HV : Vm own W m a nb tp M) (K A B C : Int) (S T : List UInt8) (e : Int) (hA : I64 A) (hS : S.length ≤ 9223372036854775807) (hL : LdL S A M e) :
    Calls Tryz.prog 26 #[sideV m nb tp, opV K A B C S T, .int .i64 e] W fun en w' => en = .returned (.bool true) ∧ Below W.heap.size W w' := by
  have HE := fun w hb => ended_any (HV.below (W' := w) hb)
  have HF := fun w hb => fuel_any (HV.below (W' := w) hb)
  have HS0 := fun w hb => status_any (HV.below (W' := w) hb) 0
  have HS1 := fun w hb => status_any (HV.below (W' := w) hb) 1
  have HO := fun w hb => Out_any (HV.below (W' := w) hb)
  have HT := fun w hb => tabs_any (HV.below (W' := w) hb)
  unfold sideV
  rw [opV_mk]
  rcases hL.ok with ⟨rfl, e1, e2, e3, e4, e5, e6, e7⟩ | ⟨h1, e1, e2, e3, e4, e6, e7⟩
  · rw [e1] at HE
    rw [e3] at HS0
    rw [e4] at HO
    rw [e6] at HS1
    have hs : decide ((32768 : Int) < (S.length : Int)) = false := decide_eq_false (by omega)
    have ht : (showT M.tb).isEmpty = false := by cases h : showT M.tb; exact absurd h e7; rfl
    generalize showT M.tb = tx at *
    by_cases hA0 : A < 0
    · rw [if_pos hA0] at e2
      have hf0 : M.fuel = 0 := by omega
      rw [hf0] at HF
      have dA : decide (A < 0) = true := decide_eq_true hA0
      have HX : Hid _ := box3 W (sO m nb tp) (pO K A B C S T) (.cells #[.int .i64 0, .int .i64 0, .int .i64 1, .string ⟨#[]⟩, .string ⟨#[]⟩] 41)
      go_enter Tryz.func26, Tryz.ntmps26
      go_wp2_with fail
      refine (HE _ HX.out.2.2.2).mono ?_; rintro e w1 ⟨rfl, hq⟩
      obtain ⟨x1, x2, x3, hb1⟩ := HX.out
      rw [← hq] at x1 x2 x3 hb1
      obtain ⟨a0, a1, a2, az⟩ := cells3 x1
      obtain ⟨p0, p1, p2, p3, p4, p5, pz⟩ := cells6 x2
      obtain ⟨n0, n1, n2, n3, n4, nz⟩ := cells5 x3
      have l1 := heap_lt x1
      have l2 := heap_lt x2
      have l3 := heap_lt x3
      have HB1 : Hid (Below W.heap.size W w1) := hb1
      clear hq x1 x2 x3 hb1 HE HX
      go_wp2_with fail
      refine (HF _ HB1.out).mono ?_; rintro e w2 ⟨rfl, hq⟩; have hq := hq.symm; subst hq
      clear HF
      go_wp2_with fail
      refine (HS0 _ HB1.out).mono ?_; rintro e w2 ⟨rfl, hq⟩; have hq := hq.symm; subst hq
      clear HS0
      go_wp2_with fail
      refine (HO _ HB1.out).mono ?_; rintro e w2 ⟨rfl, hq⟩; have hq := hq.symm; subst hq
      clear HO
      go_wp2_with fail
      refine (HT _ HB1.out).mono ?_; rintro e w2 ⟨rfl, hb2⟩
      have a0 := (hb2.cell (p := ⟨W.heap.size, 0, none⟩) l1).trans a0
      have l1 : W.heap.size < w2.heap.size := Nat.lt_of_lt_of_le l1 hb2.size
      have HB2 : Hid (Below W.heap.size W w2) := below_two HB1.out hb2
      clear hb2 HT HB1 p0 p1 p2 p3 p4 p5 n0 n1 n2 n3 n4 a1 a2
      go_wp2_with fail
      refine (HS1 _ HB2.out).mono ?_; rintro e w3 ⟨rfl, hq⟩; have hq := hq.symm; subst hq
      clear HS1
      go_wp2_with fail
      go_ret
      exact ⟨by simp, HB2.out⟩
    · rw [if_neg hA0] at e2
      obtain ⟨An, hAn⟩ : ∃ An : Nat, A = (An : Int) := ⟨A.toNat, by omega⟩
      subst hAn
      have hf0 : M.fuel = An := by omega
      rw [hf0] at HF
      have dA : decide ((An : Int) < 0) = false := decide_eq_false hA0
      have HX : Hid _ := box3 W (sO m nb tp) (pO K (An : Int) B C S T) (.cells #[.int .i64 0, .int .i64 (An : Int), .int .i64 1, .string ⟨#[]⟩, .string ⟨#[]⟩] 41)
      go_enter Tryz.func26, Tryz.ntmps26
      go_wp2_with fail
      refine (HE _ HX.out.2.2.2).mono ?_; rintro e w1 ⟨rfl, hq⟩
      obtain ⟨x1, x2, x3, hb1⟩ := HX.out
      rw [← hq] at x1 x2 x3 hb1
      obtain ⟨a0, a1, a2, az⟩ := cells3 x1
      obtain ⟨p0, p1, p2, p3, p4, p5, pz⟩ := cells6 x2
      obtain ⟨n0, n1, n2, n3, n4, nz⟩ := cells5 x3
      have l1 := heap_lt x1
      have l2 := heap_lt x2
      have l3 := heap_lt x3
      have HB1 : Hid (Below W.heap.size W w1) := hb1
      clear hq x1 x2 x3 hb1 HE HX
      go_wp2_with fail
      refine (HF _ HB1.out).mono ?_; rintro e w2 ⟨rfl, hq⟩; have hq := hq.symm; subst hq
      clear HF
      go_wp2_with fail
      refine (HS0 _ HB1.out).mono ?_; rintro e w2 ⟨rfl, hq⟩; have hq := hq.symm; subst hq
      clear HS0
      go_wp2_with fail
      refine (HO _ HB1.out).mono ?_; rintro e w2 ⟨rfl, hq⟩; have hq := hq.symm; subst hq
      clear HO
      go_wp2_with fail
      refine (HT _ HB1.out).mono ?_; rintro e w2 ⟨rfl, hb2⟩
      have a0 := (hb2.cell (p := ⟨W.heap.size, 0, none⟩) l1).trans a0
      have l1 : W.heap.size < w2.heap.size := Nat.lt_of_lt_of_le l1 hb2.size
      have HB2 : Hid (Below W.heap.size W w2) := below_two HB1.out hb2
      clear hb2 HT HB1 p0 p1 p2 p3 p4 p5 n0 n1 n2 n3 n4 a1 a2
      go_wp2_with fail
      refine (HS1 _ HB2.out).mono ?_; rintro e w3 ⟨rfl, hq⟩; have hq := hq.symm; subst hq
      clear HS1
      go_wp2_with fail
      go_ret
      exact ⟨by simp, HB2.out⟩
  · rw [e1] at HE
    rw [e2] at HF
    rw [e3] at HS0
    rw [e4] at HO
    rw [e6] at HS1
    rw [e7] at HT
    rcases h1 with ⟨rfl, hl⟩ | ⟨rfl, hl⟩
    · have hs : decide ((32768 : Int) < (S.length : Int)) = true := decide_eq_true (by omega)
      have HX : Hid _ := box3 W (sO m nb tp) (pO K A B C S T) (.cells #[.int .i64 21, .int .i64 0, .int .i64 0, .string ⟨#[]⟩, .string ⟨#[]⟩] 41)
      go_enter Tryz.func26, Tryz.ntmps26
      go_wp2_with fail
      refine (HE _ HX.out.2.2.2).mono ?_; rintro e w1 ⟨rfl, hq⟩
      obtain ⟨x1, x2, x3, hb1⟩ := HX.out
      rw [← hq] at x1 x2 x3 hb1
      obtain ⟨a0, a1, a2, az⟩ := cells3 x1
      obtain ⟨p0, p1, p2, p3, p4, p5, pz⟩ := cells6 x2
      obtain ⟨n0, n1, n2, n3, n4, nz⟩ := cells5 x3
      have l1 := heap_lt x1
      have l2 := heap_lt x2
      have l3 := heap_lt x3
      have HB1 : Hid (Below W.heap.size W w1) := hb1
      clear hq x1 x2 x3 hb1 HE HX
      go_wp2_with fail
      refine (HF _ HB1.out).mono ?_; rintro e w2 ⟨rfl, hq⟩; have hq := hq.symm; subst hq
      clear HF
      go_wp2_with fail
      refine (HS0 _ HB1.out).mono ?_; rintro e w2 ⟨rfl, hq⟩; have hq := hq.symm; subst hq
      clear HS0
      go_wp2_with fail
      refine (HO _ HB1.out).mono ?_; rintro e w2 ⟨rfl, hq⟩; have hq := hq.symm; subst hq
      clear HO
      go_wp2_with fail
      refine (HT _ HB1.out).mono ?_; rintro e w2 ⟨rfl, hb2⟩
      have a0 := (hb2.cell (p := ⟨W.heap.size, 0, none⟩) l1).trans a0
      have l1 : W.heap.size < w2.heap.size := Nat.lt_of_lt_of_le l1 hb2.size
      have HB2 : Hid (Below W.heap.size W w2) := below_two HB1.out hb2
      clear hb2 HT HB1 p0 p1 p2 p3 p4 p5 n0 n1 n2 n3 n4 a1 a2
      go_wp2_with fail
      refine (HS1 _ HB2.out).mono ?_; rintro e w3 ⟨rfl, hq⟩; have hq := hq.symm; subst hq
      clear HS1
      go_wp2_with fail
      go_ret
      exact ⟨by simp, HB2.out⟩
    · have hs : decide ((32768 : Int) < (S.length : Int)) = false := decide_eq_false (by omega)
      have HX : Hid _ := box3 W (sO m nb tp) (pO K A B C S T) (.cells #[.int .i64 21, .int .i64 0, .int .i64 0, .string ⟨#[]⟩, .string ⟨#[]⟩] 41)
      go_enter Tryz.func26, Tryz.ntmps26
      go_wp2_with fail
      refine (HE _ HX.out.2.2.2).mono ?_; rintro e w1 ⟨rfl, hq⟩
      obtain ⟨x1, x2, x3, hb1⟩ := HX.out
      rw [← hq] at x1 x2 x3 hb1
      obtain ⟨a0, a1, a2, az⟩ := cells3 x1
      obtain ⟨p0, p1, p2, p3, p4, p5, pz⟩ := cells6 x2
      obtain ⟨n0, n1, n2, n3, n4, nz⟩ := cells5 x3
      have l1 := heap_lt x1
      have l2 := heap_lt x2
      have l3 := heap_lt x3
      have HB1 : Hid (Below W.heap.size W w1) := hb1
      clear hq x1 x2 x3 hb1 HE HX
      go_wp2_with fail
      refine (HF _ HB1.out).mono ?_; rintro e w2 ⟨rfl, hq⟩; have hq := hq.symm; subst hq
      clear HF
      go_wp2_with fail
      refine (HS0 _ HB1.out).mono ?_; rintro e w2 ⟨rfl, hq⟩; have hq := hq.symm; subst hq
      clear HS0
      go_wp2_with fail
      refine (HO _ HB1.out).mono ?_; rintro e w2 ⟨rfl, hq⟩; have hq := hq.symm; subst hq
      clear HO
      go_wp2_with fail
      refine (HT _ HB1.out).mono ?_; rintro e w2 ⟨rfl, hb2⟩
      have a0 := (hb2.cell (p := ⟨W.heap.size, 0, none⟩) l1).trans a0
      have l1 : W.heap.size < w2.heap.size := Nat.lt_of_lt_of_le l1 hb2.size
      have HB2 : Hid (Below W.heap.size W w2) := below_two HB1.out hb2
      clear hb2 HT HB1 p0 p1 p2 p3 p4 p5 n0 n1 n2 n3 n4 a1 a2
      go_wp2_with fail
      refine (HS1 _ HB2.out).mono ?_; rintro e w3 ⟨rfl, hq⟩; have hq := hq.symm; subst hq
      clear HS1
      go_wp2_with fail
      go_ret
      exact ⟨by simp, HB2.out⟩
end Go.Proofs.Qxb6500293aGreatRR
