/-
  THE LAW: held 11 (the other ways of an Exec).
-/
import Derived.Test.Qxb6500293aGreatRRG6
namespace Go.Proofs.Qxb6500293aGreatRR
open Go.RowKit
open Ieee (double)
set_option linter.unusedVariables false
set_option linter.unusedSimpArgs false


set_option maxRecDepth 8000 in
set_option maxHeartbeats 3200000 in
theorem held_ev2 {own : Nat → Nat} {W : World} {m a nb tp : Nat} {M M2 : Mc} (HV : Vm own W m a nb tp M) (hR : Rest M) (x y : V) (hx : x.Ok) (hy : y.Ok) (A B C : Int) (S T : List UInt8) (hA : I64 A) (hS : S.length ≤ 9223372036854775807) (aE aM : Int) (aS : List UInt8) (hvd : vdoP M x y 4 A S = (M2, (⟨aE, 5, aM, aS⟩ : An))) (hR2 : Rest M2) (hfu : M2.fuel ≤ M.fuel) (hou : ∃ l, M2.out = M.out ++ l)
    (hev : ∀ own' w, Vm own' w m a nb tp M2 → Calls Tryz.prog 29 #[.pointer (some ⟨m, 0, none⟩), .int .i64 A, anV (⟨aE, 5, aM, aS⟩ : An)] w fun en w' => en = .returned (.bool true) ∧ Nx own' w m a nb tp M2 w') (hf0 : M.fuel ≠ 0) (ht : showT M2.tb ≠ []) :
    Calls Tryz.prog 11 #[sideV m nb tp, regV x y, opV 4 A B C S T] W fun e w' => e = .returned (.tuple #[anV (⟨aE, 5, aM, aS⟩ : An), .bool true]) ∧ Nx own W m a nb tp M2 w' := by
  have HVD : Hid (vdoP M x y 4 A S = (M2, (⟨aE, 5, aM, aS⟩ : An))) := hvd
  have HEV : Hid (∀ own' w, Vm own' w m a nb tp M2 → Calls Tryz.prog 29 #[.pointer (some ⟨m, 0, none⟩), .int .i64 A, anV (⟨aE, 5, aM, aS⟩ : An)] w fun en w' => en = .returned (.bool true) ∧ Nx own' w m a nb tp M2 w') := hev
  have HGR : Hid (∀ w, Calls Tryz.prog 27 #[.string ⟨M.out.toArray⟩, .string ⟨M2.out.toArray⟩] w fun e w' => e = .returned (.bool true) ∧ w' = w) := by
    intro w
    obtain ⟨ho, _⟩ := hR2.ou
    rcases ho.line with h | h
    · have h1 : M.out = [] := by
        obtain ⟨l, hl⟩ := hou
        rw [h] at hl
        exact (List.append_eq_nil_iff.1 hl.symm).1
      rw [h, h1]; exact grown_nil w
    · exact grown_line _ _ w hou ho.out h
  have HR2 : Hid (Rest M2) := hR2
  have HNC := fun w => told_any ⟨2, 0, 0, str [99, 97, 108, 108], nilV⟩ w ⟨by decide, by decide⟩ ⟨by decide, by decide⟩
  have HTP : Hid (toldP ⟨2, 0, 0, str [99, 97, 108, 108], nilV⟩ = .agg #[.int .i64 0, .int .i64 2, .int .i64 0, .string ⟨ncS.toArray⟩, .string ⟨#[]⟩]) := rfl
  rw [HTP.out] at HNC
  have hevv : evV ⟨2, 0, 0, str [99, 97, 108, 108], nilV⟩ = .agg #[.int .i64 2, .int .i64 0, .int .i64 0, .int .i64 3, .int .u64 0, .string ⟨#[99, 97, 108, 108]⟩, .int .i64 0, .int .u64 0, .string ⟨#[]⟩] := rfl
  rw [hevv] at HNC
  have d1 : decide ((M.fuel : Int) < (M2.fuel : Int)) = false := decide_eq_false (by omega)
  have d2 : decide (M.fuel < M2.fuel) = false := decide_eq_false (by omega)
  have f0 : ((M.fuel : Int) == 0) = false := by rw [beq_eq_false_iff_ne]; omega
  have htx : (showT M2.tb).isEmpty = false := by cases h : showT M2.tb; exact absurd h ht; rfl
  clear hf0 ht
  clear hvd hR2 hou hev hfu hevv HTP
  generalize ncS = nc at *
  have R0 := ((((RL.start HV).alloc (sO m nb tp) rfl).alloc (rO x y) (n := W.heap.size + 1) (by simp)).alloc (pO 4 A B C S T) (n := W.heap.size + 1 + 1) (by simp)).alloc aO (n := W.heap.size + 1 + 1 + 1) (by simp)
  obtain ⟨own0, hv0, -⟩ := R0.vm
  have HF := fuel_any hv0
  have HRM : Hid (Rest M) := hR
  have HXY : Hid (x.Ok ∧ y.Ok ∧ I64 A ∧ S.length ≤ 9223372036854775807) := ⟨hx, hy, hA, hS⟩
  have HR0 : Hid (RL own W m a nb tp (hB W m nb tp x y 4 A B C S T) M ((((W.alloc (sO m nb tp)).alloc (rO x y)).alloc (pO 4 A B C S T)).alloc aO)) := R0
  clear HV hv0 R0 hR hx hy hA hS
  unfold sideV regV
  rw [opV_mk]
  go_enter Tryz.func11, Tryz.ntmps11
  go_wp2_with fail
  refine HF.mono ?_; rintro e w1 ⟨rfl, hq⟩
  have R1 := HR0.out
  rw [← hq] at R1
  clear hq HF HR0
  obtain ⟨sA0, sA1, sA2, sAz⟩ := cells3 (R1.box (b := W.heap.size) (o := sO m nb tp) (by simp)).1
  obtain ⟨rA0, rA1, rA2, rA3, rA4, rA5, rAz⟩ := cells6 (R1.box (b := W.heap.size + 1) (o := rO x y) (by simp)).1
  obtain ⟨pA0, pA1, pA2, pA3, pA4, pA5, pAz⟩ := cells6 (R1.box (b := W.heap.size + 1 + 1) (o := pO 4 A B C S T) (by simp)).1
  have lA0 := (R1.box (b := W.heap.size) (o := sO m nb tp) (by simp)).2
  have lA1 := (R1.box (b := W.heap.size + 1) (o := rO x y) (by simp)).2
  have lA2 := (R1.box (b := W.heap.size + 1 + 1) (o := pO 4 A B C S T) (by simp)).2
  obtain ⟨own1, hv1, -⟩ := R1.vm
  have HO := Out_any hv1
  have HS := showM_any hv1 HRM.out
  have HR1 : Hid (RL own W m a nb tp (hB W m nb tp x y 4 A B C S T) M w1) := R1
  clear hv1 R1
  go_wp2_with fail
  refine HO.mono ?_; rintro e w2 ⟨rfl, hq⟩; have hq := hq.symm; subst hq
  clear HO
  go_wp2_with fail
  refine HS.mono ?_; rintro e w3 ⟨rfl, hb3⟩
  have R3 := HR1.out.below hb3
  clear hb3 HS HR1 sA0 sA1 sA2 sAz rA0 rA1 rA2 rA3 rA4 rA5 rAz pA0 pA1 pA2 pA3 pA4 pA5 pAz lA0 lA1 lA2
  obtain ⟨sA0, sA1, sA2, sAz⟩ := cells3 (R3.box (b := W.heap.size) (o := sO m nb tp) (by simp)).1
  obtain ⟨rA0, rA1, rA2, rA3, rA4, rA5, rAz⟩ := cells6 (R3.box (b := W.heap.size + 1) (o := rO x y) (by simp)).1
  obtain ⟨pA0, pA1, pA2, pA3, pA4, pA5, pAz⟩ := cells6 (R3.box (b := W.heap.size + 1 + 1) (o := pO 4 A B C S T) (by simp)).1
  have lA0 := (R3.box (b := W.heap.size) (o := sO m nb tp) (by simp)).2
  have lA1 := (R3.box (b := W.heap.size + 1) (o := rO x y) (by simp)).2
  have lA2 := (R3.box (b := W.heap.size + 1 + 1) (o := pO 4 A B C S T) (by simp)).2
  obtain ⟨own3, hv3, -⟩ := R3.vm
  have HT := tabs_any hv3
  have HR3 : Hid (RL own W m a nb tp (hB W m nb tp x y 4 A B C S T) M w3) := R3
  clear hv3 R3
  go_wp2_with fail
  refine HT.mono ?_; rintro e w4 ⟨rfl, hb4⟩
  have R4 := HR3.out.below hb4
  clear hb4 HT HR3 sA0 sA1 sA2 sAz rA0 rA1 rA2 rA3 rA4 rA5 rAz pA0 pA1 pA2 pA3 pA4 pA5 pAz lA0 lA1 lA2
  obtain ⟨sA0, sA1, sA2, sAz⟩ := cells3 (R4.box (b := W.heap.size) (o := sO m nb tp) (by simp)).1
  obtain ⟨rA0, rA1, rA2, rA3, rA4, rA5, rAz⟩ := cells6 (R4.box (b := W.heap.size + 1) (o := rO x y) (by simp)).1
  obtain ⟨pA0, pA1, pA2, pA3, pA4, pA5, pAz⟩ := cells6 (R4.box (b := W.heap.size + 1 + 1) (o := pO 4 A B C S T) (by simp)).1
  have lA0 := (R4.box (b := W.heap.size) (o := sO m nb tp) (by simp)).2
  have lA1 := (R4.box (b := W.heap.size + 1) (o := rO x y) (by simp)).2
  have lA2 := (R4.box (b := W.heap.size + 1 + 1) (o := pO 4 A B C S T) (by simp)).2
  obtain ⟨own4, hv4, hN4⟩ := R4.vm
  have HD := vdo_any hv4 HRM.out x y HXY.out.1 HXY.out.2.1 4 A B C S T HXY.out.2.2.1 HXY.out.2.2.2
  rw [HVD.out] at HD
  have HN4 : Hid (∀ M2 w2, Nx own4 w4 m a nb tp M2 w2 → RL own W m a nb tp (hB W m nb tp x y 4 A B C S T) M2 w2) := hN4
  clear hv4 R4 hN4
  unfold regV at HD
  rw [opV_mk] at HD
  unfold anV at HD
  simp only at HD
  go_wp2_with fail
  refine HD.mono ?_; rintro e w5 ⟨rfl, hn5⟩
  have R5 := (HN4.out _ _ hn5).alloc (.cells #[.int .i64 aE, .int .i64 5, .int .i64 aM, .string ⟨aS.toArray⟩, .string ⟨#[]⟩] 41) rfl
  clear hn5 HD HN4 sA0 sA1 sA2 sAz rA0 rA1 rA2 rA3 rA4 rA5 rAz pA0 pA1 pA2 pA3 pA4 pA5 pAz lA0 lA1 lA2
  go_upto_region 11 with fail
  generalize hWA : w5.alloc (.cells #[.int .i64 aE, .int .i64 5, .int .i64 aM, .string ⟨aS.toArray⟩, .string ⟨#[]⟩] 41) = w6 at *
  obtain ⟨AB, hAB⟩ : ∃ AB, AB = w5.heap.size := ⟨_, rfl⟩
  rw [← hAB] at R5 ⊢
  clear hWA hAB
  obtain ⟨sA0, sA1, sA2, sAz⟩ := cells3 (R5.box (b := W.heap.size) (o := sO m nb tp) (by simp)).1
  obtain ⟨pA0, pA1, pA2, pA3, pA4, pA5, pAz⟩ := cells6 (R5.box (b := W.heap.size + 1 + 1) (o := pO 4 A B C S T) (by simp)).1
  obtain ⟨n0, n1, n2, n3, n4, nz⟩ := cells5 (R5.box (b := AB) (o := .cells #[.int .i64 aE, .int .i64 5, .int .i64 aM, .string ⟨aS.toArray⟩, .string ⟨#[]⟩] 41) List.mem_cons_self).1
  have lA0 := (R5.box (b := W.heap.size) (o := sO m nb tp) (by simp)).2
  have lA2 := (R5.box (b := W.heap.size + 1 + 1) (o := pO 4 A B C S T) (by simp)).2
  have ln := (R5.box (b := AB) (o := .cells #[.int .i64 aE, .int .i64 5, .int .i64 aM, .string ⟨aS.toArray⟩, .string ⟨#[]⟩] 41) List.mem_cons_self).2
  obtain ⟨own5, hv5, -⟩ := R5.vm
  have HF2 := fuel_any hv5
  have HO2 := Out_any hv5
  have HR5 : Hid (RL own W m a nb tp ((AB, .cells #[.int .i64 aE, .int .i64 5, .int .i64 aM, .string ⟨aS.toArray⟩, .string ⟨#[]⟩] 41) :: hB W m nb tp x y 4 A B C S T) M2 w6) := R5
  clear hv5 R5
  generalize M.fuel = fu at *
  generalize M2.fuel = fu2 at *
  generalize M.out = ou at *
  generalize M2.out = ou2 at *
  go_wp2_with fail
  refine HF2.mono ?_; rintro e w7 ⟨rfl, hq⟩; have hq := hq.symm; subst hq
  clear HF2
  go_wp2_with fail
  refine HO2.mono ?_; rintro e w7 ⟨rfl, hq⟩; have hq := hq.symm; subst hq
  clear HO2
  go_wp2_with fail
  refine (HGR.out _).mono ?_; rintro e w7 ⟨rfl, hq⟩; have hq := hq.symm; subst hq
  clear HGR
  go_wp2_with fail
  refine (HNC _).mono ?_; rintro e w8 ⟨rfl, hb8⟩
  have R8 := (HR5.out.below hb8).alloc (.cells #[.int .i64 0, .int .i64 2, .int .i64 0, .string ⟨nc.toArray⟩, .string ⟨#[]⟩] 41) rfl
  clear hb8 HNC HR5 sA0 sA1 sA2 sAz pA0 pA1 pA2 pA3 pA4 pA5 pAz n0 n1 n2 n3 n4 nz lA0 lA2 ln
  go_upto_region 24 with fail
  generalize hWB : w8.alloc (.cells #[.int .i64 0, .int .i64 2, .int .i64 0, .string ⟨nc.toArray⟩, .string ⟨#[]⟩] 41) = w9 at *
  obtain ⟨CB, hCB⟩ : ∃ CB, CB = w8.heap.size := ⟨_, rfl⟩
  rw [← hCB] at R8 ⊢
  clear hWB hCB
  obtain ⟨sA0, sA1, sA2, sAz⟩ := cells3 (R8.box (b := W.heap.size) (o := sO m nb tp) (by simp)).1
  obtain ⟨pA0, pA1, pA2, pA3, pA4, pA5, pAz⟩ := cells6 (R8.box (b := W.heap.size + 1 + 1) (o := pO 4 A B C S T) (by simp)).1
  obtain ⟨n0, n1, n2, n3, n4, nz⟩ := cells5 (R8.box (b := AB) (o := .cells #[.int .i64 aE, .int .i64 5, .int .i64 aM, .string ⟨aS.toArray⟩, .string ⟨#[]⟩] 41) (by simp)).1
  have lA0 := (R8.box (b := W.heap.size) (o := sO m nb tp) (by simp)).2
  have lA2 := (R8.box (b := W.heap.size + 1 + 1) (o := pO 4 A B C S T) (by simp)).2
  have ln := (R8.box (b := AB) (o := .cells #[.int .i64 aE, .int .i64 5, .int .i64 aM, .string ⟨aS.toArray⟩, .string ⟨#[]⟩] 41) (by simp)).2
  obtain ⟨c0, c1, c2, c3, c4, cz⟩ := cells5 (R8.box (b := CB) (o := .cells #[.int .i64 0, .int .i64 2, .int .i64 0, .string ⟨nc.toArray⟩, .string ⟨#[]⟩] 41) List.mem_cons_self).1
  have lc := (R8.box (b := CB) (o := .cells #[.int .i64 0, .int .i64 2, .int .i64 0, .string ⟨nc.toArray⟩, .string ⟨#[]⟩] 41) List.mem_cons_self).2
  have HT9 : Hid (∀ own' w, Vm own' w m a nb tp M2 → Calls Tryz.prog 8 #[belV nb tp] w fun e w' => e = .returned (.string ⟨(showT M2.tb).toArray⟩) ∧ Below w.heap.size w w') := fun _ _ h => tabs_any h
  obtain ⟨own9t, hv9t, -⟩ := R8.vm
  have HTQ := HT9.out _ _ hv9t
  have HR8 : Hid (RL own W m a nb tp ((CB, .cells #[.int .i64 0, .int .i64 2, .int .i64 0, .string ⟨nc.toArray⟩, .string ⟨#[]⟩] 41) :: (AB, .cells #[.int .i64 aE, .int .i64 5, .int .i64 aM, .string ⟨aS.toArray⟩, .string ⟨#[]⟩] 41) :: hB W m nb tp x y 4 A B C S T) M2 w9) := R8
  clear hv9t R8 HT9
  generalize showT M2.tb = tx at *
  go_wp2_with fail
  refine HTQ.mono ?_; rintro e w10 ⟨rfl, hb10⟩
  have R10 := HR8.out.below hb10
  clear hb10 HTQ HR8 sA0 sA1 sA2 sAz pA0 pA1 pA2 pA3 pA4 pA5 pAz n0 n1 n2 n3 n4 nz lA0 lA2 ln c0 c1 c2 c3 c4 cz lc
  obtain ⟨sA0, sA1, sA2, sAz⟩ := cells3 (R10.box (b := W.heap.size) (o := sO m nb tp) (by simp)).1
  obtain ⟨pA0, pA1, pA2, pA3, pA4, pA5, pAz⟩ := cells6 (R10.box (b := W.heap.size + 1 + 1) (o := pO 4 A B C S T) (by simp)).1
  obtain ⟨n0, n1, n2, n3, n4, nz⟩ := cells5 (R10.box (b := AB) (o := .cells #[.int .i64 aE, .int .i64 5, .int .i64 aM, .string ⟨aS.toArray⟩, .string ⟨#[]⟩] 41) (by simp)).1
  have lA0 := (R10.box (b := W.heap.size) (o := sO m nb tp) (by simp)).2
  have lA2 := (R10.box (b := W.heap.size + 1 + 1) (o := pO 4 A B C S T) (by simp)).2
  have ln := (R10.box (b := AB) (o := .cells #[.int .i64 aE, .int .i64 5, .int .i64 aM, .string ⟨aS.toArray⟩, .string ⟨#[]⟩] 41) (by simp)).2
  obtain ⟨own9, hv9, hN9⟩ := R10.vm
  have HE9 := HEV.out _ _ hv9
  unfold anV at HE9
  have HN9 : Hid (∀ Mq w2, Nx own9 w10 m a nb tp Mq w2 → RL own W m a nb tp ((CB, .cells #[.int .i64 0, .int .i64 2, .int .i64 0, .string ⟨nc.toArray⟩, .string ⟨#[]⟩] 41) :: (AB, .cells #[.int .i64 aE, .int .i64 5, .int .i64 aM, .string ⟨aS.toArray⟩, .string ⟨#[]⟩] 41) :: hB W m nb tp x y 4 A B C S T) Mq w2) := hN9
  clear hv9 hN9 R10 HEV
  simp only at HE9
  go_wp2_with fail
  refine HE9.mono ?_; rintro e w11 ⟨rfl, hn11⟩
  have R11 := HN9.out _ _ hn11
  clear hn11 HE9 HN9 sA0 sA1 sA2 sAz pA0 pA1 pA2 pA3 pA4 pA5 pAz n0 n1 n2 n3 n4 nz lA0 lA2 ln
  obtain ⟨n0, n1, n2, n3, n4, nz⟩ := cells5 (R11.box (b := AB) (o := .cells #[.int .i64 aE, .int .i64 5, .int .i64 aM, .string ⟨aS.toArray⟩, .string ⟨#[]⟩] 41) (by simp)).1
  have ln := (R11.box (b := AB) (o := .cells #[.int .i64 aE, .int .i64 5, .int .i64 aM, .string ⟨aS.toArray⟩, .string ⟨#[]⟩] 41) (by simp)).2
  obtain ⟨d0, d1, d2, d3, d4, dz⟩ := cells5 (R11.box (b := W.heap.size + 1 + 1 + 1) (o := aO) (by simp)).1
  have hbl := (R11.box (b := W.heap.size + 1 + 1 + 1) (o := aO) (by simp)).2
  have HPQ : Hid (∀ x0 x1 x2 x3 x4, Nx own W m a nb tp (M2) (((((w11.setCell ⟨W.heap.size + 1 + 1 + 1, 0, none⟩ x0).setCell ⟨W.heap.size + 1 + 1 + 1, 1, none⟩ x1).setCell ⟨W.heap.size + 1 + 1 + 1, 2, none⟩ x2).setCell ⟨W.heap.size + 1 + 1 + 1, 3, none⟩ x3).setCell ⟨W.heap.size + 1 + 1 + 1, 4, none⟩ x4)) := fun x0 x1 x2 x3 x4 => R11.put5 (o := aO) (by simp) x0 x1 x2 x3 x4
  clear R11
  go_wp2_with fail
  refine bodyPost_ret (v := .tuple #[anV (⟨aE, 5, aM, aS⟩ : An), .bool true]) (by simp [results, go_sem, anV, d0, d1, d2, d3, d4]) rfl ?_
  exact ⟨rfl, HPQ.out _ _ _ _ _⟩

set_option maxRecDepth 8000 in
set_option maxHeartbeats 3200000 in
theorem held_ev3 {own : Nat → Nat} {W : World} {m a nb tp : Nat} {M M2 : Mc} (HV : Vm own W m a nb tp M) (hR : Rest M) (x y : V) (hx : x.Ok) (hy : y.Ok) (A B C : Int) (S T : List UInt8) (hA : I64 A) (hS : S.length ≤ 9223372036854775807) (aE aM : Int) (aS : List UInt8) (hvd : vdoP M x y 4 A S = (M2, (⟨aE, 1, aM, aS⟩ : An))) (hR2 : Rest M2) (hfu : M2.fuel ≤ M.fuel) (hou : ∃ l, M2.out = M.out ++ l)
    (hev : ∀ own' w, Vm own' w m a nb tp M2 → Calls Tryz.prog 29 #[.pointer (some ⟨m, 0, none⟩), .int .i64 A, anV (⟨aE, 1, aM, aS⟩ : An)] w fun en w' => en = .returned (.bool true) ∧ Nx own' w m a nb tp M2 w') (hf0 : M.fuel = 0) (hoe : M2.out = M.out) :
    Calls Tryz.prog 11 #[sideV m nb tp, regV x y, opV 4 A B C S T] W fun e w' => e = .returned (.tuple #[anV (⟨aE, 1, aM, aS⟩ : An), .bool true]) ∧ Nx own W m a nb tp M2 w' := by
  have HVD : Hid (vdoP M x y 4 A S = (M2, (⟨aE, 1, aM, aS⟩ : An))) := hvd
  have HEV : Hid (∀ own' w, Vm own' w m a nb tp M2 → Calls Tryz.prog 29 #[.pointer (some ⟨m, 0, none⟩), .int .i64 A, anV (⟨aE, 1, aM, aS⟩ : An)] w fun en w' => en = .returned (.bool true) ∧ Nx own' w m a nb tp M2 w') := hev
  have HGR : Hid (∀ w, Calls Tryz.prog 27 #[.string ⟨M.out.toArray⟩, .string ⟨M2.out.toArray⟩] w fun e w' => e = .returned (.bool true) ∧ w' = w) := by
    intro w
    obtain ⟨ho, _⟩ := hR2.ou
    rcases ho.line with h | h
    · have h1 : M.out = [] := by
        obtain ⟨l, hl⟩ := hou
        rw [h] at hl
        exact (List.append_eq_nil_iff.1 hl.symm).1
      rw [h, h1]; exact grown_nil w
    · exact grown_line _ _ w hou ho.out h
  have HR2 : Hid (Rest M2) := hR2
  have HNC := fun w => told_any ⟨2, 0, 0, str [99, 97, 108, 108], nilV⟩ w ⟨by decide, by decide⟩ ⟨by decide, by decide⟩
  have HTP : Hid (toldP ⟨2, 0, 0, str [99, 97, 108, 108], nilV⟩ = .agg #[.int .i64 0, .int .i64 2, .int .i64 0, .string ⟨ncS.toArray⟩, .string ⟨#[]⟩]) := rfl
  rw [HTP.out] at HNC
  have hevv : evV ⟨2, 0, 0, str [99, 97, 108, 108], nilV⟩ = .agg #[.int .i64 2, .int .i64 0, .int .i64 0, .int .i64 3, .int .u64 0, .string ⟨#[99, 97, 108, 108]⟩, .int .i64 0, .int .u64 0, .string ⟨#[]⟩] := rfl
  rw [hevv] at HNC
  have d1 : decide ((M.fuel : Int) < (M2.fuel : Int)) = false := decide_eq_false (by omega)
  have d2 : decide (M.fuel < M2.fuel) = false := decide_eq_false (by omega)
  have f0 : ((M.fuel : Int) == 0) = true := by rw [hf0]; rfl
  clear hf0
  clear hvd hR2 hou hev hfu hevv HTP
  generalize ncS = nc at *
  have R0 := ((((RL.start HV).alloc (sO m nb tp) rfl).alloc (rO x y) (n := W.heap.size + 1) (by simp)).alloc (pO 4 A B C S T) (n := W.heap.size + 1 + 1) (by simp)).alloc aO (n := W.heap.size + 1 + 1 + 1) (by simp)
  obtain ⟨own0, hv0, -⟩ := R0.vm
  have HF := fuel_any hv0
  have HRM : Hid (Rest M) := hR
  have HXY : Hid (x.Ok ∧ y.Ok ∧ I64 A ∧ S.length ≤ 9223372036854775807) := ⟨hx, hy, hA, hS⟩
  have HR0 : Hid (RL own W m a nb tp (hB W m nb tp x y 4 A B C S T) M ((((W.alloc (sO m nb tp)).alloc (rO x y)).alloc (pO 4 A B C S T)).alloc aO)) := R0
  clear HV hv0 R0 hR hx hy hA hS
  unfold sideV regV
  rw [opV_mk]
  go_enter Tryz.func11, Tryz.ntmps11
  go_wp2_with fail
  refine HF.mono ?_; rintro e w1 ⟨rfl, hq⟩
  have R1 := HR0.out
  rw [← hq] at R1
  clear hq HF HR0
  obtain ⟨sA0, sA1, sA2, sAz⟩ := cells3 (R1.box (b := W.heap.size) (o := sO m nb tp) (by simp)).1
  obtain ⟨rA0, rA1, rA2, rA3, rA4, rA5, rAz⟩ := cells6 (R1.box (b := W.heap.size + 1) (o := rO x y) (by simp)).1
  obtain ⟨pA0, pA1, pA2, pA3, pA4, pA5, pAz⟩ := cells6 (R1.box (b := W.heap.size + 1 + 1) (o := pO 4 A B C S T) (by simp)).1
  have lA0 := (R1.box (b := W.heap.size) (o := sO m nb tp) (by simp)).2
  have lA1 := (R1.box (b := W.heap.size + 1) (o := rO x y) (by simp)).2
  have lA2 := (R1.box (b := W.heap.size + 1 + 1) (o := pO 4 A B C S T) (by simp)).2
  obtain ⟨own1, hv1, -⟩ := R1.vm
  have HO := Out_any hv1
  have HS := showM_any hv1 HRM.out
  have HR1 : Hid (RL own W m a nb tp (hB W m nb tp x y 4 A B C S T) M w1) := R1
  clear hv1 R1
  go_wp2_with fail
  refine HO.mono ?_; rintro e w2 ⟨rfl, hq⟩; have hq := hq.symm; subst hq
  clear HO
  go_wp2_with fail
  refine HS.mono ?_; rintro e w3 ⟨rfl, hb3⟩
  have R3 := HR1.out.below hb3
  clear hb3 HS HR1 sA0 sA1 sA2 sAz rA0 rA1 rA2 rA3 rA4 rA5 rAz pA0 pA1 pA2 pA3 pA4 pA5 pAz lA0 lA1 lA2
  obtain ⟨sA0, sA1, sA2, sAz⟩ := cells3 (R3.box (b := W.heap.size) (o := sO m nb tp) (by simp)).1
  obtain ⟨rA0, rA1, rA2, rA3, rA4, rA5, rAz⟩ := cells6 (R3.box (b := W.heap.size + 1) (o := rO x y) (by simp)).1
  obtain ⟨pA0, pA1, pA2, pA3, pA4, pA5, pAz⟩ := cells6 (R3.box (b := W.heap.size + 1 + 1) (o := pO 4 A B C S T) (by simp)).1
  have lA0 := (R3.box (b := W.heap.size) (o := sO m nb tp) (by simp)).2
  have lA1 := (R3.box (b := W.heap.size + 1) (o := rO x y) (by simp)).2
  have lA2 := (R3.box (b := W.heap.size + 1 + 1) (o := pO 4 A B C S T) (by simp)).2
  obtain ⟨own3, hv3, -⟩ := R3.vm
  have HT := tabs_any hv3
  have HR3 : Hid (RL own W m a nb tp (hB W m nb tp x y 4 A B C S T) M w3) := R3
  clear hv3 R3
  go_wp2_with fail
  refine HT.mono ?_; rintro e w4 ⟨rfl, hb4⟩
  have R4 := HR3.out.below hb4
  clear hb4 HT HR3 sA0 sA1 sA2 sAz rA0 rA1 rA2 rA3 rA4 rA5 rAz pA0 pA1 pA2 pA3 pA4 pA5 pAz lA0 lA1 lA2
  obtain ⟨sA0, sA1, sA2, sAz⟩ := cells3 (R4.box (b := W.heap.size) (o := sO m nb tp) (by simp)).1
  obtain ⟨rA0, rA1, rA2, rA3, rA4, rA5, rAz⟩ := cells6 (R4.box (b := W.heap.size + 1) (o := rO x y) (by simp)).1
  obtain ⟨pA0, pA1, pA2, pA3, pA4, pA5, pAz⟩ := cells6 (R4.box (b := W.heap.size + 1 + 1) (o := pO 4 A B C S T) (by simp)).1
  have lA0 := (R4.box (b := W.heap.size) (o := sO m nb tp) (by simp)).2
  have lA1 := (R4.box (b := W.heap.size + 1) (o := rO x y) (by simp)).2
  have lA2 := (R4.box (b := W.heap.size + 1 + 1) (o := pO 4 A B C S T) (by simp)).2
  obtain ⟨own4, hv4, hN4⟩ := R4.vm
  have HD := vdo_any hv4 HRM.out x y HXY.out.1 HXY.out.2.1 4 A B C S T HXY.out.2.2.1 HXY.out.2.2.2
  rw [HVD.out] at HD
  have HN4 : Hid (∀ M2 w2, Nx own4 w4 m a nb tp M2 w2 → RL own W m a nb tp (hB W m nb tp x y 4 A B C S T) M2 w2) := hN4
  clear hv4 R4 hN4
  unfold regV at HD
  rw [opV_mk] at HD
  unfold anV at HD
  simp only at HD
  go_wp2_with fail
  refine HD.mono ?_; rintro e w5 ⟨rfl, hn5⟩
  have R5 := (HN4.out _ _ hn5).alloc (.cells #[.int .i64 aE, .int .i64 1, .int .i64 aM, .string ⟨aS.toArray⟩, .string ⟨#[]⟩] 41) rfl
  clear hn5 HD HN4 sA0 sA1 sA2 sAz rA0 rA1 rA2 rA3 rA4 rA5 rAz pA0 pA1 pA2 pA3 pA4 pA5 pAz lA0 lA1 lA2
  go_upto_region 11 with fail
  generalize hWA : w5.alloc (.cells #[.int .i64 aE, .int .i64 1, .int .i64 aM, .string ⟨aS.toArray⟩, .string ⟨#[]⟩] 41) = w6 at *
  obtain ⟨AB, hAB⟩ : ∃ AB, AB = w5.heap.size := ⟨_, rfl⟩
  rw [← hAB] at R5 ⊢
  clear hWA hAB
  obtain ⟨sA0, sA1, sA2, sAz⟩ := cells3 (R5.box (b := W.heap.size) (o := sO m nb tp) (by simp)).1
  obtain ⟨pA0, pA1, pA2, pA3, pA4, pA5, pAz⟩ := cells6 (R5.box (b := W.heap.size + 1 + 1) (o := pO 4 A B C S T) (by simp)).1
  obtain ⟨n0, n1, n2, n3, n4, nz⟩ := cells5 (R5.box (b := AB) (o := .cells #[.int .i64 aE, .int .i64 1, .int .i64 aM, .string ⟨aS.toArray⟩, .string ⟨#[]⟩] 41) List.mem_cons_self).1
  have lA0 := (R5.box (b := W.heap.size) (o := sO m nb tp) (by simp)).2
  have lA2 := (R5.box (b := W.heap.size + 1 + 1) (o := pO 4 A B C S T) (by simp)).2
  have ln := (R5.box (b := AB) (o := .cells #[.int .i64 aE, .int .i64 1, .int .i64 aM, .string ⟨aS.toArray⟩, .string ⟨#[]⟩] 41) List.mem_cons_self).2
  obtain ⟨own5, hv5, -⟩ := R5.vm
  have HF2 := fuel_any hv5
  have HO2 := Out_any hv5
  have HR5 : Hid (RL own W m a nb tp ((AB, .cells #[.int .i64 aE, .int .i64 1, .int .i64 aM, .string ⟨aS.toArray⟩, .string ⟨#[]⟩] 41) :: hB W m nb tp x y 4 A B C S T) M2 w6) := R5
  clear hv5 R5
  rw [hoe] at HO2 HGR
  clear hoe
  generalize M.fuel = fu at *
  generalize M2.fuel = fu2 at *
  generalize M.out = ou at *
  go_wp2_with fail
  refine HF2.mono ?_; rintro e w7 ⟨rfl, hq⟩; have hq := hq.symm; subst hq
  clear HF2
  go_wp2_with fail
  refine HO2.mono ?_; rintro e w7 ⟨rfl, hq⟩; have hq := hq.symm; subst hq
  clear HO2
  go_wp2_with fail
  refine (HGR.out _).mono ?_; rintro e w7 ⟨rfl, hq⟩; have hq := hq.symm; subst hq
  clear HGR
  go_wp2_with fail
  refine (HNC _).mono ?_; rintro e w8 ⟨rfl, hb8⟩
  have R8 := (HR5.out.below hb8).alloc (.cells #[.int .i64 0, .int .i64 2, .int .i64 0, .string ⟨nc.toArray⟩, .string ⟨#[]⟩] 41) rfl
  clear hb8 HNC HR5 sA0 sA1 sA2 sAz pA0 pA1 pA2 pA3 pA4 pA5 pAz n0 n1 n2 n3 n4 nz lA0 lA2 ln
  go_upto_region 24 with fail
  generalize hWB : w8.alloc (.cells #[.int .i64 0, .int .i64 2, .int .i64 0, .string ⟨nc.toArray⟩, .string ⟨#[]⟩] 41) = w9 at *
  obtain ⟨CB, hCB⟩ : ∃ CB, CB = w8.heap.size := ⟨_, rfl⟩
  rw [← hCB] at R8 ⊢
  clear hWB hCB
  obtain ⟨sA0, sA1, sA2, sAz⟩ := cells3 (R8.box (b := W.heap.size) (o := sO m nb tp) (by simp)).1
  obtain ⟨pA0, pA1, pA2, pA3, pA4, pA5, pAz⟩ := cells6 (R8.box (b := W.heap.size + 1 + 1) (o := pO 4 A B C S T) (by simp)).1
  obtain ⟨n0, n1, n2, n3, n4, nz⟩ := cells5 (R8.box (b := AB) (o := .cells #[.int .i64 aE, .int .i64 1, .int .i64 aM, .string ⟨aS.toArray⟩, .string ⟨#[]⟩] 41) (by simp)).1
  have lA0 := (R8.box (b := W.heap.size) (o := sO m nb tp) (by simp)).2
  have lA2 := (R8.box (b := W.heap.size + 1 + 1) (o := pO 4 A B C S T) (by simp)).2
  have ln := (R8.box (b := AB) (o := .cells #[.int .i64 aE, .int .i64 1, .int .i64 aM, .string ⟨aS.toArray⟩, .string ⟨#[]⟩] 41) (by simp)).2
  obtain ⟨c0, c1, c2, c3, c4, cz⟩ := cells5 (R8.box (b := CB) (o := .cells #[.int .i64 0, .int .i64 2, .int .i64 0, .string ⟨nc.toArray⟩, .string ⟨#[]⟩] 41) List.mem_cons_self).1
  have lc := (R8.box (b := CB) (o := .cells #[.int .i64 0, .int .i64 2, .int .i64 0, .string ⟨nc.toArray⟩, .string ⟨#[]⟩] 41) List.mem_cons_self).2
  obtain ⟨own9, hv9, hN9⟩ := R8.vm
  have HE9 := HEV.out _ _ hv9
  unfold anV at HE9
  have HN9 : Hid (∀ Mq w2, Nx own9 w9 m a nb tp Mq w2 → RL own W m a nb tp ((CB, .cells #[.int .i64 0, .int .i64 2, .int .i64 0, .string ⟨nc.toArray⟩, .string ⟨#[]⟩] 41) :: (AB, .cells #[.int .i64 aE, .int .i64 1, .int .i64 aM, .string ⟨aS.toArray⟩, .string ⟨#[]⟩] 41) :: hB W m nb tp x y 4 A B C S T) Mq w2) := hN9
  clear hv9 hN9 R8 HEV
  simp only at HE9
  go_wp2_with fail
  refine HE9.mono ?_; rintro e w11 ⟨rfl, hn11⟩
  have R11 := HN9.out _ _ hn11
  clear hn11 HE9 HN9 sA0 sA1 sA2 sAz pA0 pA1 pA2 pA3 pA4 pA5 pAz n0 n1 n2 n3 n4 nz lA0 lA2 ln c0 c1 c2 c3 c4 cz lc
  obtain ⟨n0, n1, n2, n3, n4, nz⟩ := cells5 (R11.box (b := AB) (o := .cells #[.int .i64 aE, .int .i64 1, .int .i64 aM, .string ⟨aS.toArray⟩, .string ⟨#[]⟩] 41) (by simp)).1
  have ln := (R11.box (b := AB) (o := .cells #[.int .i64 aE, .int .i64 1, .int .i64 aM, .string ⟨aS.toArray⟩, .string ⟨#[]⟩] 41) (by simp)).2
  obtain ⟨d0, d1, d2, d3, d4, dz⟩ := cells5 (R11.box (b := W.heap.size + 1 + 1 + 1) (o := aO) (by simp)).1
  have hbl := (R11.box (b := W.heap.size + 1 + 1 + 1) (o := aO) (by simp)).2
  have HPQ : Hid (∀ x0 x1 x2 x3 x4, Nx own W m a nb tp (M2) (((((w11.setCell ⟨W.heap.size + 1 + 1 + 1, 0, none⟩ x0).setCell ⟨W.heap.size + 1 + 1 + 1, 1, none⟩ x1).setCell ⟨W.heap.size + 1 + 1 + 1, 2, none⟩ x2).setCell ⟨W.heap.size + 1 + 1 + 1, 3, none⟩ x3).setCell ⟨W.heap.size + 1 + 1 + 1, 4, none⟩ x4)) := fun x0 x1 x2 x3 x4 => R11.put5 (o := aO) (by simp) x0 x1 x2 x3 x4
  clear R11
  go_wp2_with fail
  refine bodyPost_ret (v := .tuple #[anV (⟨aE, 1, aM, aS⟩ : An), .bool true]) (by simp [results, go_sem, anV, d0, d1, d2, d3, d4]) rfl ?_
  exact ⟨rfl, HPQ.out _ _ _ _ _⟩

set_option maxRecDepth 8000 in
set_option maxHeartbeats 3200000 in
theorem held_ev4 {own : Nat → Nat} {W : World} {m a nb tp : Nat} {M M2 : Mc} (HV : Vm own W m a nb tp M) (hR : Rest M) (x y : V) (hx : x.Ok) (hy : y.Ok) (A B C : Int) (S T : List UInt8) (hA : I64 A) (hS : S.length ≤ 9223372036854775807)  (aS : List UInt8) (hvd : vdoP M x y 4 A S = (M2, (⟨0, 2, 0, aS⟩ : An))) (hR2 : Rest M2) (hfu : M2.fuel ≤ M.fuel) (hou : ∃ l, M2.out = M.out ++ l)
    (hev : ∀ own' w, Vm own' w m a nb tp M2 → Calls Tryz.prog 29 #[.pointer (some ⟨m, 0, none⟩), .int .i64 A, anV (⟨0, 2, 0, aS⟩ : An)] w fun en w' => en = .returned (.bool true) ∧ Nx own' w m a nb tp M2 w') (hf0 : M.fuel = 0) (hoe : M2.out = M.out) (hnc : aS ≠ ncS) :
    Calls Tryz.prog 11 #[sideV m nb tp, regV x y, opV 4 A B C S T] W fun e w' => e = .returned (.tuple #[anV (⟨0, 2, 0, aS⟩ : An), .bool true]) ∧ Nx own W m a nb tp M2 w' := by
  have HVD : Hid (vdoP M x y 4 A S = (M2, (⟨0, 2, 0, aS⟩ : An))) := hvd
  have HEV : Hid (∀ own' w, Vm own' w m a nb tp M2 → Calls Tryz.prog 29 #[.pointer (some ⟨m, 0, none⟩), .int .i64 A, anV (⟨0, 2, 0, aS⟩ : An)] w fun en w' => en = .returned (.bool true) ∧ Nx own' w m a nb tp M2 w') := hev
  have HGR : Hid (∀ w, Calls Tryz.prog 27 #[.string ⟨M.out.toArray⟩, .string ⟨M2.out.toArray⟩] w fun e w' => e = .returned (.bool true) ∧ w' = w) := by
    intro w
    obtain ⟨ho, _⟩ := hR2.ou
    rcases ho.line with h | h
    · have h1 : M.out = [] := by
        obtain ⟨l, hl⟩ := hou
        rw [h] at hl
        exact (List.append_eq_nil_iff.1 hl.symm).1
      rw [h, h1]; exact grown_nil w
    · exact grown_line _ _ w hou ho.out h
  have HR2 : Hid (Rest M2) := hR2
  have HNC := fun w => told_any ⟨2, 0, 0, str [99, 97, 108, 108], nilV⟩ w ⟨by decide, by decide⟩ ⟨by decide, by decide⟩
  have HTP : Hid (toldP ⟨2, 0, 0, str [99, 97, 108, 108], nilV⟩ = .agg #[.int .i64 0, .int .i64 2, .int .i64 0, .string ⟨ncS.toArray⟩, .string ⟨#[]⟩]) := rfl
  rw [HTP.out] at HNC
  have hevv : evV ⟨2, 0, 0, str [99, 97, 108, 108], nilV⟩ = .agg #[.int .i64 2, .int .i64 0, .int .i64 0, .int .i64 3, .int .u64 0, .string ⟨#[99, 97, 108, 108]⟩, .int .i64 0, .int .u64 0, .string ⟨#[]⟩] := rfl
  rw [hevv] at HNC
  have d1 : decide ((M.fuel : Int) < (M2.fuel : Int)) = false := decide_eq_false (by omega)
  have d2 : decide (M.fuel < M2.fuel) = false := decide_eq_false (by omega)
  have f0 : ((M.fuel : Int) == 0) = true := by rw [hf0]; rfl
  have hn1 : (aS == ncS) = false := by simpa using hnc
  have hn2 : decide (aS = ncS) = false := decide_eq_false hnc
  clear hf0
  clear hvd hR2 hou hev hfu hevv HTP
  generalize ncS = nc at *
  have R0 := ((((RL.start HV).alloc (sO m nb tp) rfl).alloc (rO x y) (n := W.heap.size + 1) (by simp)).alloc (pO 4 A B C S T) (n := W.heap.size + 1 + 1) (by simp)).alloc aO (n := W.heap.size + 1 + 1 + 1) (by simp)
  obtain ⟨own0, hv0, -⟩ := R0.vm
  have HF := fuel_any hv0
  have HRM : Hid (Rest M) := hR
  have HXY : Hid (x.Ok ∧ y.Ok ∧ I64 A ∧ S.length ≤ 9223372036854775807) := ⟨hx, hy, hA, hS⟩
  have HR0 : Hid (RL own W m a nb tp (hB W m nb tp x y 4 A B C S T) M ((((W.alloc (sO m nb tp)).alloc (rO x y)).alloc (pO 4 A B C S T)).alloc aO)) := R0
  clear HV hv0 R0 hR hx hy hA hS
  unfold sideV regV
  rw [opV_mk]
  go_enter Tryz.func11, Tryz.ntmps11
  go_wp2_with fail
  refine HF.mono ?_; rintro e w1 ⟨rfl, hq⟩
  have R1 := HR0.out
  rw [← hq] at R1
  clear hq HF HR0
  obtain ⟨sA0, sA1, sA2, sAz⟩ := cells3 (R1.box (b := W.heap.size) (o := sO m nb tp) (by simp)).1
  obtain ⟨rA0, rA1, rA2, rA3, rA4, rA5, rAz⟩ := cells6 (R1.box (b := W.heap.size + 1) (o := rO x y) (by simp)).1
  obtain ⟨pA0, pA1, pA2, pA3, pA4, pA5, pAz⟩ := cells6 (R1.box (b := W.heap.size + 1 + 1) (o := pO 4 A B C S T) (by simp)).1
  have lA0 := (R1.box (b := W.heap.size) (o := sO m nb tp) (by simp)).2
  have lA1 := (R1.box (b := W.heap.size + 1) (o := rO x y) (by simp)).2
  have lA2 := (R1.box (b := W.heap.size + 1 + 1) (o := pO 4 A B C S T) (by simp)).2
  obtain ⟨own1, hv1, -⟩ := R1.vm
  have HO := Out_any hv1
  have HS := showM_any hv1 HRM.out
  have HR1 : Hid (RL own W m a nb tp (hB W m nb tp x y 4 A B C S T) M w1) := R1
  clear hv1 R1
  go_wp2_with fail
  refine HO.mono ?_; rintro e w2 ⟨rfl, hq⟩; have hq := hq.symm; subst hq
  clear HO
  go_wp2_with fail
  refine HS.mono ?_; rintro e w3 ⟨rfl, hb3⟩
  have R3 := HR1.out.below hb3
  clear hb3 HS HR1 sA0 sA1 sA2 sAz rA0 rA1 rA2 rA3 rA4 rA5 rAz pA0 pA1 pA2 pA3 pA4 pA5 pAz lA0 lA1 lA2
  obtain ⟨sA0, sA1, sA2, sAz⟩ := cells3 (R3.box (b := W.heap.size) (o := sO m nb tp) (by simp)).1
  obtain ⟨rA0, rA1, rA2, rA3, rA4, rA5, rAz⟩ := cells6 (R3.box (b := W.heap.size + 1) (o := rO x y) (by simp)).1
  obtain ⟨pA0, pA1, pA2, pA3, pA4, pA5, pAz⟩ := cells6 (R3.box (b := W.heap.size + 1 + 1) (o := pO 4 A B C S T) (by simp)).1
  have lA0 := (R3.box (b := W.heap.size) (o := sO m nb tp) (by simp)).2
  have lA1 := (R3.box (b := W.heap.size + 1) (o := rO x y) (by simp)).2
  have lA2 := (R3.box (b := W.heap.size + 1 + 1) (o := pO 4 A B C S T) (by simp)).2
  obtain ⟨own3, hv3, -⟩ := R3.vm
  have HT := tabs_any hv3
  have HR3 : Hid (RL own W m a nb tp (hB W m nb tp x y 4 A B C S T) M w3) := R3
  clear hv3 R3
  go_wp2_with fail
  refine HT.mono ?_; rintro e w4 ⟨rfl, hb4⟩
  have R4 := HR3.out.below hb4
  clear hb4 HT HR3 sA0 sA1 sA2 sAz rA0 rA1 rA2 rA3 rA4 rA5 rAz pA0 pA1 pA2 pA3 pA4 pA5 pAz lA0 lA1 lA2
  obtain ⟨sA0, sA1, sA2, sAz⟩ := cells3 (R4.box (b := W.heap.size) (o := sO m nb tp) (by simp)).1
  obtain ⟨rA0, rA1, rA2, rA3, rA4, rA5, rAz⟩ := cells6 (R4.box (b := W.heap.size + 1) (o := rO x y) (by simp)).1
  obtain ⟨pA0, pA1, pA2, pA3, pA4, pA5, pAz⟩ := cells6 (R4.box (b := W.heap.size + 1 + 1) (o := pO 4 A B C S T) (by simp)).1
  have lA0 := (R4.box (b := W.heap.size) (o := sO m nb tp) (by simp)).2
  have lA1 := (R4.box (b := W.heap.size + 1) (o := rO x y) (by simp)).2
  have lA2 := (R4.box (b := W.heap.size + 1 + 1) (o := pO 4 A B C S T) (by simp)).2
  obtain ⟨own4, hv4, hN4⟩ := R4.vm
  have HD := vdo_any hv4 HRM.out x y HXY.out.1 HXY.out.2.1 4 A B C S T HXY.out.2.2.1 HXY.out.2.2.2
  rw [HVD.out] at HD
  have HN4 : Hid (∀ M2 w2, Nx own4 w4 m a nb tp M2 w2 → RL own W m a nb tp (hB W m nb tp x y 4 A B C S T) M2 w2) := hN4
  clear hv4 R4 hN4
  unfold regV at HD
  rw [opV_mk] at HD
  unfold anV at HD
  simp only at HD
  go_wp2_with fail
  refine HD.mono ?_; rintro e w5 ⟨rfl, hn5⟩
  have R5 := (HN4.out _ _ hn5).alloc (.cells #[.int .i64 0, .int .i64 2, .int .i64 0, .string ⟨aS.toArray⟩, .string ⟨#[]⟩] 41) rfl
  clear hn5 HD HN4 sA0 sA1 sA2 sAz rA0 rA1 rA2 rA3 rA4 rA5 rAz pA0 pA1 pA2 pA3 pA4 pA5 pAz lA0 lA1 lA2
  go_upto_region 11 with fail
  generalize hWA : w5.alloc (.cells #[.int .i64 0, .int .i64 2, .int .i64 0, .string ⟨aS.toArray⟩, .string ⟨#[]⟩] 41) = w6 at *
  obtain ⟨AB, hAB⟩ : ∃ AB, AB = w5.heap.size := ⟨_, rfl⟩
  rw [← hAB] at R5 ⊢
  clear hWA hAB
  obtain ⟨sA0, sA1, sA2, sAz⟩ := cells3 (R5.box (b := W.heap.size) (o := sO m nb tp) (by simp)).1
  obtain ⟨pA0, pA1, pA2, pA3, pA4, pA5, pAz⟩ := cells6 (R5.box (b := W.heap.size + 1 + 1) (o := pO 4 A B C S T) (by simp)).1
  obtain ⟨n0, n1, n2, n3, n4, nz⟩ := cells5 (R5.box (b := AB) (o := .cells #[.int .i64 0, .int .i64 2, .int .i64 0, .string ⟨aS.toArray⟩, .string ⟨#[]⟩] 41) List.mem_cons_self).1
  have lA0 := (R5.box (b := W.heap.size) (o := sO m nb tp) (by simp)).2
  have lA2 := (R5.box (b := W.heap.size + 1 + 1) (o := pO 4 A B C S T) (by simp)).2
  have ln := (R5.box (b := AB) (o := .cells #[.int .i64 0, .int .i64 2, .int .i64 0, .string ⟨aS.toArray⟩, .string ⟨#[]⟩] 41) List.mem_cons_self).2
  obtain ⟨own5, hv5, -⟩ := R5.vm
  have HF2 := fuel_any hv5
  have HO2 := Out_any hv5
  have HR5 : Hid (RL own W m a nb tp ((AB, .cells #[.int .i64 0, .int .i64 2, .int .i64 0, .string ⟨aS.toArray⟩, .string ⟨#[]⟩] 41) :: hB W m nb tp x y 4 A B C S T) M2 w6) := R5
  clear hv5 R5
  rw [hoe] at HO2 HGR
  clear hoe
  generalize M.fuel = fu at *
  generalize M2.fuel = fu2 at *
  generalize M.out = ou at *
  go_wp2_with fail
  refine HF2.mono ?_; rintro e w7 ⟨rfl, hq⟩; have hq := hq.symm; subst hq
  clear HF2
  go_wp2_with fail
  refine HO2.mono ?_; rintro e w7 ⟨rfl, hq⟩; have hq := hq.symm; subst hq
  clear HO2
  go_wp2_with fail
  refine (HGR.out _).mono ?_; rintro e w7 ⟨rfl, hq⟩; have hq := hq.symm; subst hq
  clear HGR
  go_wp2_with fail
  refine (HNC _).mono ?_; rintro e w8 ⟨rfl, hb8⟩
  have R8 := (HR5.out.below hb8).alloc (.cells #[.int .i64 0, .int .i64 2, .int .i64 0, .string ⟨nc.toArray⟩, .string ⟨#[]⟩] 41) rfl
  clear hb8 HNC HR5 sA0 sA1 sA2 sAz pA0 pA1 pA2 pA3 pA4 pA5 pAz n0 n1 n2 n3 n4 nz lA0 lA2 ln
  go_upto_region 24 with fail
  generalize hWB : w8.alloc (.cells #[.int .i64 0, .int .i64 2, .int .i64 0, .string ⟨nc.toArray⟩, .string ⟨#[]⟩] 41) = w9 at *
  obtain ⟨CB, hCB⟩ : ∃ CB, CB = w8.heap.size := ⟨_, rfl⟩
  rw [← hCB] at R8 ⊢
  clear hWB hCB
  obtain ⟨sA0, sA1, sA2, sAz⟩ := cells3 (R8.box (b := W.heap.size) (o := sO m nb tp) (by simp)).1
  obtain ⟨pA0, pA1, pA2, pA3, pA4, pA5, pAz⟩ := cells6 (R8.box (b := W.heap.size + 1 + 1) (o := pO 4 A B C S T) (by simp)).1
  obtain ⟨n0, n1, n2, n3, n4, nz⟩ := cells5 (R8.box (b := AB) (o := .cells #[.int .i64 0, .int .i64 2, .int .i64 0, .string ⟨aS.toArray⟩, .string ⟨#[]⟩] 41) (by simp)).1
  have lA0 := (R8.box (b := W.heap.size) (o := sO m nb tp) (by simp)).2
  have lA2 := (R8.box (b := W.heap.size + 1 + 1) (o := pO 4 A B C S T) (by simp)).2
  have ln := (R8.box (b := AB) (o := .cells #[.int .i64 0, .int .i64 2, .int .i64 0, .string ⟨aS.toArray⟩, .string ⟨#[]⟩] 41) (by simp)).2
  obtain ⟨c0, c1, c2, c3, c4, cz⟩ := cells5 (R8.box (b := CB) (o := .cells #[.int .i64 0, .int .i64 2, .int .i64 0, .string ⟨nc.toArray⟩, .string ⟨#[]⟩] 41) List.mem_cons_self).1
  have lc := (R8.box (b := CB) (o := .cells #[.int .i64 0, .int .i64 2, .int .i64 0, .string ⟨nc.toArray⟩, .string ⟨#[]⟩] 41) List.mem_cons_self).2
  obtain ⟨own9, hv9, hN9⟩ := R8.vm
  have HE9 := HEV.out _ _ hv9
  unfold anV at HE9
  have HN9 : Hid (∀ Mq w2, Nx own9 w9 m a nb tp Mq w2 → RL own W m a nb tp ((CB, .cells #[.int .i64 0, .int .i64 2, .int .i64 0, .string ⟨nc.toArray⟩, .string ⟨#[]⟩] 41) :: (AB, .cells #[.int .i64 0, .int .i64 2, .int .i64 0, .string ⟨aS.toArray⟩, .string ⟨#[]⟩] 41) :: hB W m nb tp x y 4 A B C S T) Mq w2) := hN9
  clear hv9 hN9 R8 HEV
  simp only at HE9
  go_wp2_with fail
  refine HE9.mono ?_; rintro e w11 ⟨rfl, hn11⟩
  have R11 := HN9.out _ _ hn11
  clear hn11 HE9 HN9 sA0 sA1 sA2 sAz pA0 pA1 pA2 pA3 pA4 pA5 pAz n0 n1 n2 n3 n4 nz lA0 lA2 ln c0 c1 c2 c3 c4 cz lc
  obtain ⟨n0, n1, n2, n3, n4, nz⟩ := cells5 (R11.box (b := AB) (o := .cells #[.int .i64 0, .int .i64 2, .int .i64 0, .string ⟨aS.toArray⟩, .string ⟨#[]⟩] 41) (by simp)).1
  have ln := (R11.box (b := AB) (o := .cells #[.int .i64 0, .int .i64 2, .int .i64 0, .string ⟨aS.toArray⟩, .string ⟨#[]⟩] 41) (by simp)).2
  obtain ⟨d0, d1, d2, d3, d4, dz⟩ := cells5 (R11.box (b := W.heap.size + 1 + 1 + 1) (o := aO) (by simp)).1
  have hbl := (R11.box (b := W.heap.size + 1 + 1 + 1) (o := aO) (by simp)).2
  have HPQ : Hid (∀ x0 x1 x2 x3 x4, Nx own W m a nb tp (M2) (((((w11.setCell ⟨W.heap.size + 1 + 1 + 1, 0, none⟩ x0).setCell ⟨W.heap.size + 1 + 1 + 1, 1, none⟩ x1).setCell ⟨W.heap.size + 1 + 1 + 1, 2, none⟩ x2).setCell ⟨W.heap.size + 1 + 1 + 1, 3, none⟩ x3).setCell ⟨W.heap.size + 1 + 1 + 1, 4, none⟩ x4)) := fun x0 x1 x2 x3 x4 => R11.put5 (o := aO) (by simp) x0 x1 x2 x3 x4
  clear R11
  go_wp2_with fail
  refine bodyPost_ret (v := .tuple #[anV (⟨0, 2, 0, aS⟩ : An), .bool true]) (by simp [results, go_sem, anV, d0, d1, d2, d3, d4]) rfl ?_
  exact ⟨rfl, HPQ.out _ _ _ _ _⟩

set_option maxRecDepth 8000 in
set_option maxHeartbeats 3200000 in
theorem held_ev5 {own : Nat → Nat} {W : World} {m a nb tp : Nat} {M M2 : Mc} (HV : Vm own W m a nb tp M) (hR : Rest M) (x y : V) (hx : x.Ok) (hy : y.Ok) (A B C : Int) (S T : List UInt8) (hA : I64 A) (hS : S.length ≤ 9223372036854775807) (aE aM : Int) (aS : List UInt8) (hvd : vdoP M x y 4 A S = (M2, (⟨aE, 5, aM, aS⟩ : An))) (hR2 : Rest M2) (hfu : M2.fuel ≤ M.fuel) (hou : ∃ l, M2.out = M.out ++ l)
    (hev : ∀ own' w, Vm own' w m a nb tp M2 → Calls Tryz.prog 29 #[.pointer (some ⟨m, 0, none⟩), .int .i64 A, anV (⟨aE, 5, aM, aS⟩ : An)] w fun en w' => en = .returned (.bool true) ∧ Nx own' w m a nb tp M2 w') (hf0 : M.fuel = 0) (hoe : M2.out = M.out) (ht : showT M2.tb ≠ []) :
    Calls Tryz.prog 11 #[sideV m nb tp, regV x y, opV 4 A B C S T] W fun e w' => e = .returned (.tuple #[anV (⟨aE, 5, aM, aS⟩ : An), .bool true]) ∧ Nx own W m a nb tp M2 w' := by
  have HVD : Hid (vdoP M x y 4 A S = (M2, (⟨aE, 5, aM, aS⟩ : An))) := hvd
  have HEV : Hid (∀ own' w, Vm own' w m a nb tp M2 → Calls Tryz.prog 29 #[.pointer (some ⟨m, 0, none⟩), .int .i64 A, anV (⟨aE, 5, aM, aS⟩ : An)] w fun en w' => en = .returned (.bool true) ∧ Nx own' w m a nb tp M2 w') := hev
  have HGR : Hid (∀ w, Calls Tryz.prog 27 #[.string ⟨M.out.toArray⟩, .string ⟨M2.out.toArray⟩] w fun e w' => e = .returned (.bool true) ∧ w' = w) := by
    intro w
    obtain ⟨ho, _⟩ := hR2.ou
    rcases ho.line with h | h
    · have h1 : M.out = [] := by
        obtain ⟨l, hl⟩ := hou
        rw [h] at hl
        exact (List.append_eq_nil_iff.1 hl.symm).1
      rw [h, h1]; exact grown_nil w
    · exact grown_line _ _ w hou ho.out h
  have HR2 : Hid (Rest M2) := hR2
  have HNC := fun w => told_any ⟨2, 0, 0, str [99, 97, 108, 108], nilV⟩ w ⟨by decide, by decide⟩ ⟨by decide, by decide⟩
  have HTP : Hid (toldP ⟨2, 0, 0, str [99, 97, 108, 108], nilV⟩ = .agg #[.int .i64 0, .int .i64 2, .int .i64 0, .string ⟨ncS.toArray⟩, .string ⟨#[]⟩]) := rfl
  rw [HTP.out] at HNC
  have hevv : evV ⟨2, 0, 0, str [99, 97, 108, 108], nilV⟩ = .agg #[.int .i64 2, .int .i64 0, .int .i64 0, .int .i64 3, .int .u64 0, .string ⟨#[99, 97, 108, 108]⟩, .int .i64 0, .int .u64 0, .string ⟨#[]⟩] := rfl
  rw [hevv] at HNC
  have d1 : decide ((M.fuel : Int) < (M2.fuel : Int)) = false := decide_eq_false (by omega)
  have d2 : decide (M.fuel < M2.fuel) = false := decide_eq_false (by omega)
  have f0 : ((M.fuel : Int) == 0) = true := by rw [hf0]; rfl
  have htx : (showT M2.tb).isEmpty = false := by cases h : showT M2.tb; exact absurd h ht; rfl
  clear hf0 ht
  clear hvd hR2 hou hev hfu hevv HTP
  generalize ncS = nc at *
  have R0 := ((((RL.start HV).alloc (sO m nb tp) rfl).alloc (rO x y) (n := W.heap.size + 1) (by simp)).alloc (pO 4 A B C S T) (n := W.heap.size + 1 + 1) (by simp)).alloc aO (n := W.heap.size + 1 + 1 + 1) (by simp)
  obtain ⟨own0, hv0, -⟩ := R0.vm
  have HF := fuel_any hv0
  have HRM : Hid (Rest M) := hR
  have HXY : Hid (x.Ok ∧ y.Ok ∧ I64 A ∧ S.length ≤ 9223372036854775807) := ⟨hx, hy, hA, hS⟩
  have HR0 : Hid (RL own W m a nb tp (hB W m nb tp x y 4 A B C S T) M ((((W.alloc (sO m nb tp)).alloc (rO x y)).alloc (pO 4 A B C S T)).alloc aO)) := R0
  clear HV hv0 R0 hR hx hy hA hS
  unfold sideV regV
  rw [opV_mk]
  go_enter Tryz.func11, Tryz.ntmps11
  go_wp2_with fail
  refine HF.mono ?_; rintro e w1 ⟨rfl, hq⟩
  have R1 := HR0.out
  rw [← hq] at R1
  clear hq HF HR0
  obtain ⟨sA0, sA1, sA2, sAz⟩ := cells3 (R1.box (b := W.heap.size) (o := sO m nb tp) (by simp)).1
  obtain ⟨rA0, rA1, rA2, rA3, rA4, rA5, rAz⟩ := cells6 (R1.box (b := W.heap.size + 1) (o := rO x y) (by simp)).1
  obtain ⟨pA0, pA1, pA2, pA3, pA4, pA5, pAz⟩ := cells6 (R1.box (b := W.heap.size + 1 + 1) (o := pO 4 A B C S T) (by simp)).1
  have lA0 := (R1.box (b := W.heap.size) (o := sO m nb tp) (by simp)).2
  have lA1 := (R1.box (b := W.heap.size + 1) (o := rO x y) (by simp)).2
  have lA2 := (R1.box (b := W.heap.size + 1 + 1) (o := pO 4 A B C S T) (by simp)).2
  obtain ⟨own1, hv1, -⟩ := R1.vm
  have HO := Out_any hv1
  have HS := showM_any hv1 HRM.out
  have HR1 : Hid (RL own W m a nb tp (hB W m nb tp x y 4 A B C S T) M w1) := R1
  clear hv1 R1
  go_wp2_with fail
  refine HO.mono ?_; rintro e w2 ⟨rfl, hq⟩; have hq := hq.symm; subst hq
  clear HO
  go_wp2_with fail
  refine HS.mono ?_; rintro e w3 ⟨rfl, hb3⟩
  have R3 := HR1.out.below hb3
  clear hb3 HS HR1 sA0 sA1 sA2 sAz rA0 rA1 rA2 rA3 rA4 rA5 rAz pA0 pA1 pA2 pA3 pA4 pA5 pAz lA0 lA1 lA2
  obtain ⟨sA0, sA1, sA2, sAz⟩ := cells3 (R3.box (b := W.heap.size) (o := sO m nb tp) (by simp)).1
  obtain ⟨rA0, rA1, rA2, rA3, rA4, rA5, rAz⟩ := cells6 (R3.box (b := W.heap.size + 1) (o := rO x y) (by simp)).1
  obtain ⟨pA0, pA1, pA2, pA3, pA4, pA5, pAz⟩ := cells6 (R3.box (b := W.heap.size + 1 + 1) (o := pO 4 A B C S T) (by simp)).1
  have lA0 := (R3.box (b := W.heap.size) (o := sO m nb tp) (by simp)).2
  have lA1 := (R3.box (b := W.heap.size + 1) (o := rO x y) (by simp)).2
  have lA2 := (R3.box (b := W.heap.size + 1 + 1) (o := pO 4 A B C S T) (by simp)).2
  obtain ⟨own3, hv3, -⟩ := R3.vm
  have HT := tabs_any hv3
  have HR3 : Hid (RL own W m a nb tp (hB W m nb tp x y 4 A B C S T) M w3) := R3
  clear hv3 R3
  go_wp2_with fail
  refine HT.mono ?_; rintro e w4 ⟨rfl, hb4⟩
  have R4 := HR3.out.below hb4
  clear hb4 HT HR3 sA0 sA1 sA2 sAz rA0 rA1 rA2 rA3 rA4 rA5 rAz pA0 pA1 pA2 pA3 pA4 pA5 pAz lA0 lA1 lA2
  obtain ⟨sA0, sA1, sA2, sAz⟩ := cells3 (R4.box (b := W.heap.size) (o := sO m nb tp) (by simp)).1
  obtain ⟨rA0, rA1, rA2, rA3, rA4, rA5, rAz⟩ := cells6 (R4.box (b := W.heap.size + 1) (o := rO x y) (by simp)).1
  obtain ⟨pA0, pA1, pA2, pA3, pA4, pA5, pAz⟩ := cells6 (R4.box (b := W.heap.size + 1 + 1) (o := pO 4 A B C S T) (by simp)).1
  have lA0 := (R4.box (b := W.heap.size) (o := sO m nb tp) (by simp)).2
  have lA1 := (R4.box (b := W.heap.size + 1) (o := rO x y) (by simp)).2
  have lA2 := (R4.box (b := W.heap.size + 1 + 1) (o := pO 4 A B C S T) (by simp)).2
  obtain ⟨own4, hv4, hN4⟩ := R4.vm
  have HD := vdo_any hv4 HRM.out x y HXY.out.1 HXY.out.2.1 4 A B C S T HXY.out.2.2.1 HXY.out.2.2.2
  rw [HVD.out] at HD
  have HN4 : Hid (∀ M2 w2, Nx own4 w4 m a nb tp M2 w2 → RL own W m a nb tp (hB W m nb tp x y 4 A B C S T) M2 w2) := hN4
  clear hv4 R4 hN4
  unfold regV at HD
  rw [opV_mk] at HD
  unfold anV at HD
  simp only at HD
  go_wp2_with fail
  refine HD.mono ?_; rintro e w5 ⟨rfl, hn5⟩
  have R5 := (HN4.out _ _ hn5).alloc (.cells #[.int .i64 aE, .int .i64 5, .int .i64 aM, .string ⟨aS.toArray⟩, .string ⟨#[]⟩] 41) rfl
  clear hn5 HD HN4 sA0 sA1 sA2 sAz rA0 rA1 rA2 rA3 rA4 rA5 rAz pA0 pA1 pA2 pA3 pA4 pA5 pAz lA0 lA1 lA2
  go_upto_region 11 with fail
  generalize hWA : w5.alloc (.cells #[.int .i64 aE, .int .i64 5, .int .i64 aM, .string ⟨aS.toArray⟩, .string ⟨#[]⟩] 41) = w6 at *
  obtain ⟨AB, hAB⟩ : ∃ AB, AB = w5.heap.size := ⟨_, rfl⟩
  rw [← hAB] at R5 ⊢
  clear hWA hAB
  obtain ⟨sA0, sA1, sA2, sAz⟩ := cells3 (R5.box (b := W.heap.size) (o := sO m nb tp) (by simp)).1
  obtain ⟨pA0, pA1, pA2, pA3, pA4, pA5, pAz⟩ := cells6 (R5.box (b := W.heap.size + 1 + 1) (o := pO 4 A B C S T) (by simp)).1
  obtain ⟨n0, n1, n2, n3, n4, nz⟩ := cells5 (R5.box (b := AB) (o := .cells #[.int .i64 aE, .int .i64 5, .int .i64 aM, .string ⟨aS.toArray⟩, .string ⟨#[]⟩] 41) List.mem_cons_self).1
  have lA0 := (R5.box (b := W.heap.size) (o := sO m nb tp) (by simp)).2
  have lA2 := (R5.box (b := W.heap.size + 1 + 1) (o := pO 4 A B C S T) (by simp)).2
  have ln := (R5.box (b := AB) (o := .cells #[.int .i64 aE, .int .i64 5, .int .i64 aM, .string ⟨aS.toArray⟩, .string ⟨#[]⟩] 41) List.mem_cons_self).2
  obtain ⟨own5, hv5, -⟩ := R5.vm
  have HF2 := fuel_any hv5
  have HO2 := Out_any hv5
  have HR5 : Hid (RL own W m a nb tp ((AB, .cells #[.int .i64 aE, .int .i64 5, .int .i64 aM, .string ⟨aS.toArray⟩, .string ⟨#[]⟩] 41) :: hB W m nb tp x y 4 A B C S T) M2 w6) := R5
  clear hv5 R5
  rw [hoe] at HO2 HGR
  clear hoe
  generalize M.fuel = fu at *
  generalize M2.fuel = fu2 at *
  generalize M.out = ou at *
  go_wp2_with fail
  refine HF2.mono ?_; rintro e w7 ⟨rfl, hq⟩; have hq := hq.symm; subst hq
  clear HF2
  go_wp2_with fail
  refine HO2.mono ?_; rintro e w7 ⟨rfl, hq⟩; have hq := hq.symm; subst hq
  clear HO2
  go_wp2_with fail
  refine (HGR.out _).mono ?_; rintro e w7 ⟨rfl, hq⟩; have hq := hq.symm; subst hq
  clear HGR
  go_wp2_with fail
  refine (HNC _).mono ?_; rintro e w8 ⟨rfl, hb8⟩
  have R8 := (HR5.out.below hb8).alloc (.cells #[.int .i64 0, .int .i64 2, .int .i64 0, .string ⟨nc.toArray⟩, .string ⟨#[]⟩] 41) rfl
  clear hb8 HNC HR5 sA0 sA1 sA2 sAz pA0 pA1 pA2 pA3 pA4 pA5 pAz n0 n1 n2 n3 n4 nz lA0 lA2 ln
  go_upto_region 24 with fail
  generalize hWB : w8.alloc (.cells #[.int .i64 0, .int .i64 2, .int .i64 0, .string ⟨nc.toArray⟩, .string ⟨#[]⟩] 41) = w9 at *
  obtain ⟨CB, hCB⟩ : ∃ CB, CB = w8.heap.size := ⟨_, rfl⟩
  rw [← hCB] at R8 ⊢
  clear hWB hCB
  obtain ⟨sA0, sA1, sA2, sAz⟩ := cells3 (R8.box (b := W.heap.size) (o := sO m nb tp) (by simp)).1
  obtain ⟨pA0, pA1, pA2, pA3, pA4, pA5, pAz⟩ := cells6 (R8.box (b := W.heap.size + 1 + 1) (o := pO 4 A B C S T) (by simp)).1
  obtain ⟨n0, n1, n2, n3, n4, nz⟩ := cells5 (R8.box (b := AB) (o := .cells #[.int .i64 aE, .int .i64 5, .int .i64 aM, .string ⟨aS.toArray⟩, .string ⟨#[]⟩] 41) (by simp)).1
  have lA0 := (R8.box (b := W.heap.size) (o := sO m nb tp) (by simp)).2
  have lA2 := (R8.box (b := W.heap.size + 1 + 1) (o := pO 4 A B C S T) (by simp)).2
  have ln := (R8.box (b := AB) (o := .cells #[.int .i64 aE, .int .i64 5, .int .i64 aM, .string ⟨aS.toArray⟩, .string ⟨#[]⟩] 41) (by simp)).2
  obtain ⟨c0, c1, c2, c3, c4, cz⟩ := cells5 (R8.box (b := CB) (o := .cells #[.int .i64 0, .int .i64 2, .int .i64 0, .string ⟨nc.toArray⟩, .string ⟨#[]⟩] 41) List.mem_cons_self).1
  have lc := (R8.box (b := CB) (o := .cells #[.int .i64 0, .int .i64 2, .int .i64 0, .string ⟨nc.toArray⟩, .string ⟨#[]⟩] 41) List.mem_cons_self).2
  have HT9 : Hid (∀ own' w, Vm own' w m a nb tp M2 → Calls Tryz.prog 8 #[belV nb tp] w fun e w' => e = .returned (.string ⟨(showT M2.tb).toArray⟩) ∧ Below w.heap.size w w') := fun _ _ h => tabs_any h
  obtain ⟨own9t, hv9t, -⟩ := R8.vm
  have HTQ := HT9.out _ _ hv9t
  have HR8 : Hid (RL own W m a nb tp ((CB, .cells #[.int .i64 0, .int .i64 2, .int .i64 0, .string ⟨nc.toArray⟩, .string ⟨#[]⟩] 41) :: (AB, .cells #[.int .i64 aE, .int .i64 5, .int .i64 aM, .string ⟨aS.toArray⟩, .string ⟨#[]⟩] 41) :: hB W m nb tp x y 4 A B C S T) M2 w9) := R8
  clear hv9t R8 HT9
  generalize showT M2.tb = tx at *
  go_wp2_with fail
  refine HTQ.mono ?_; rintro e w10 ⟨rfl, hb10⟩
  have R10 := HR8.out.below hb10
  clear hb10 HTQ HR8 sA0 sA1 sA2 sAz pA0 pA1 pA2 pA3 pA4 pA5 pAz n0 n1 n2 n3 n4 nz lA0 lA2 ln c0 c1 c2 c3 c4 cz lc
  obtain ⟨sA0, sA1, sA2, sAz⟩ := cells3 (R10.box (b := W.heap.size) (o := sO m nb tp) (by simp)).1
  obtain ⟨pA0, pA1, pA2, pA3, pA4, pA5, pAz⟩ := cells6 (R10.box (b := W.heap.size + 1 + 1) (o := pO 4 A B C S T) (by simp)).1
  obtain ⟨n0, n1, n2, n3, n4, nz⟩ := cells5 (R10.box (b := AB) (o := .cells #[.int .i64 aE, .int .i64 5, .int .i64 aM, .string ⟨aS.toArray⟩, .string ⟨#[]⟩] 41) (by simp)).1
  have lA0 := (R10.box (b := W.heap.size) (o := sO m nb tp) (by simp)).2
  have lA2 := (R10.box (b := W.heap.size + 1 + 1) (o := pO 4 A B C S T) (by simp)).2
  have ln := (R10.box (b := AB) (o := .cells #[.int .i64 aE, .int .i64 5, .int .i64 aM, .string ⟨aS.toArray⟩, .string ⟨#[]⟩] 41) (by simp)).2
  obtain ⟨own9, hv9, hN9⟩ := R10.vm
  have HE9 := HEV.out _ _ hv9
  unfold anV at HE9
  have HN9 : Hid (∀ Mq w2, Nx own9 w10 m a nb tp Mq w2 → RL own W m a nb tp ((CB, .cells #[.int .i64 0, .int .i64 2, .int .i64 0, .string ⟨nc.toArray⟩, .string ⟨#[]⟩] 41) :: (AB, .cells #[.int .i64 aE, .int .i64 5, .int .i64 aM, .string ⟨aS.toArray⟩, .string ⟨#[]⟩] 41) :: hB W m nb tp x y 4 A B C S T) Mq w2) := hN9
  clear hv9 hN9 R10 HEV
  simp only at HE9
  go_wp2_with fail
  refine HE9.mono ?_; rintro e w11 ⟨rfl, hn11⟩
  have R11 := HN9.out _ _ hn11
  clear hn11 HE9 HN9 sA0 sA1 sA2 sAz pA0 pA1 pA2 pA3 pA4 pA5 pAz n0 n1 n2 n3 n4 nz lA0 lA2 ln
  obtain ⟨n0, n1, n2, n3, n4, nz⟩ := cells5 (R11.box (b := AB) (o := .cells #[.int .i64 aE, .int .i64 5, .int .i64 aM, .string ⟨aS.toArray⟩, .string ⟨#[]⟩] 41) (by simp)).1
  have ln := (R11.box (b := AB) (o := .cells #[.int .i64 aE, .int .i64 5, .int .i64 aM, .string ⟨aS.toArray⟩, .string ⟨#[]⟩] 41) (by simp)).2
  obtain ⟨d0, d1, d2, d3, d4, dz⟩ := cells5 (R11.box (b := W.heap.size + 1 + 1 + 1) (o := aO) (by simp)).1
  have hbl := (R11.box (b := W.heap.size + 1 + 1 + 1) (o := aO) (by simp)).2
  have HPQ : Hid (∀ x0 x1 x2 x3 x4, Nx own W m a nb tp (M2) (((((w11.setCell ⟨W.heap.size + 1 + 1 + 1, 0, none⟩ x0).setCell ⟨W.heap.size + 1 + 1 + 1, 1, none⟩ x1).setCell ⟨W.heap.size + 1 + 1 + 1, 2, none⟩ x2).setCell ⟨W.heap.size + 1 + 1 + 1, 3, none⟩ x3).setCell ⟨W.heap.size + 1 + 1 + 1, 4, none⟩ x4)) := fun x0 x1 x2 x3 x4 => R11.put5 (o := aO) (by simp) x0 x1 x2 x3 x4
  clear R11
  go_wp2_with fail
  refine bodyPost_ret (v := .tuple #[anV (⟨aE, 5, aM, aS⟩ : An), .bool true]) (by simp [results, go_sem, anV, d0, d1, d2, d3, d4]) rfl ?_
  exact ⟨rfl, HPQ.out _ _ _ _ _⟩
end Go.Proofs.Qxb6500293aGreatRR
