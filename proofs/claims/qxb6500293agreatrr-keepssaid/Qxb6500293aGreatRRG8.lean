/-
  THE LAW: held 11 of every step, Held 6.
-/
import Derived.Test.Qxb6500293aGreatRRG7
namespace Go.Proofs.Qxb6500293aGreatRR
open Go.RowKit
open Ieee (double)
set_option linter.unusedVariables false
set_option linter.unusedSimpArgs false

theorem showT_ne {st : List Tbl} (h : 1 ≤ st.length) : showT st ≠ [] := by
  cases st with
  | nil => simp at h
  | cons t r =>
    unfold showT tabL
    simp
theorem errs_nc {v : V} (h : v ∈ errs) : showV v ++ [44] ++ showV nilV ≠ ncS := by
  have key : errs.all (fun v => !(showV v ++ [44] ++ showV nilV == ncS)) = true := by kernel_rfl
  have h1 := List.all_eq_true.1 key v h
  intro e
  rw [e] at h1
  simp at h1
theorem vdo_same (M : Mc) (x y : V) {K : Int} (A : Int) (S : List UInt8) (h3 : K ≠ 3) (h4 : K ≠ 4) : ∃ an, vdoP M x y K A S = (M, an) := by
  unfold vdoP
  rw [if_neg h3, if_neg h4]
  repeat' split
  all_goals exact ⟨_, rfl⟩
theorem spin_rest : Rest spinM := (exec_ev (load_keeps spinI 3 (by decide)) 0 (a := nilV) (b := nilV) (by decide) (by decide)).2.2
theorem heldP_rest {M : Mc} (hR : Rest M) (x y : V) (hx : x.Ok) (hy : y.Ok) (K A : Int) (S : List UInt8) (hA : I64 A) : Rest (heldP M x y K A S).1 := by
  by_cases h12 : K = 12
  · rw [h12, heldP_12]
    exact spin_rest
  rw [heldP_do M x y A S h12]
  by_cases h3 : K = 3
  · have : vdoP M x y K A S = ((loadP S A).1, ⟨(loadP S A).2, 0, 0, []⟩) := if_pos h3
    rw [this]
    exact load_keeps S A hA.2
  by_cases h4 : K = 4
  · have : vdoP M x y K A S = ((execP M A x y).1, toldA (execP M A x y).2) := by unfold vdoP; rw [if_neg h3, if_pos h4]
    rw [this]
    exact (exec_ev hR A hx.N hy.N).2.2
  obtain ⟨an, h⟩ := vdo_same M x y A S h3 h4
  rw [h]
  exact hR
theorem held_exec {own : Nat → Nat} {W : World} {m a nb tp : Nat} {M : Mc} (HV : Vm own W m a nb tp M) (hR : Rest M) (x y : V) (hx : x.Ok) (hy : y.Ok) (A B C : Int) (S T : List UInt8) (hA : I64 A) (hS : S.length ≤ 9223372036854775807) :
    Calls Tryz.prog 11 #[sideV m nb tp, regV x y, opV 4 A B C S T] W fun e w' => e = .returned (.tuple #[anV (vdoP M x y 4 A S).2, .bool true]) ∧ Nx own W m a nb tp (vdoP M x y 4 A S).1 w' := by
  have hvd : vdoP M x y 4 A S = ((execP M A x y).1, toldA (execP M A x y).2) := rfl
  rcases exec_keeps hR A hx.N hy.N with h | ⟨h0, hA0, hA1, hX⟩
  · rw [h] at hvd
    rw [hvd]
    exact held_bad HV hR x y hx hy A B C S T hA hS _ _ _ hvd
  · have hR2 := (exec_ev hR A hx.N hy.N).2.2
    generalize execP M A x y = r at *
    obtain ⟨M2, ev⟩ := r
    have hfu : M2.fuel ≤ M.fuel := hX.fuel
    have hou : ∃ l, M2.out = M.out ++ l := hX.out
    have hqq := hX.quiet
    rw [hvd]
    rcases hX.ev with ⟨g1, g2, g3⟩ | ⟨e, g1, g2, g3, g4, g5, _⟩
    · have g1 : Alive M2 none := g1
      have g2 : EvOk M2 A.toNat ev := g2
      have g3 : M.th.length ≤ M2.th.length := g3
      have hst : statusP M2 A = (M2.t A.toNat).st := status_in hA0 (by omega)
      have hk := g2.k
      have hev : ∀ own' w, Vm own' w m a nb tp M2 → Calls Tryz.prog 29 #[.pointer (some ⟨m, 0, none⟩), .int .i64 A, anV (toldA ev)] w fun en w' => en = .returned (.bool true) ∧ Nx own' w m a nb tp M2 w' := by
        intro own' w hv
        rcases (by omega : ev.K = 1 ∨ ev.K = 2 ∨ ev.K = 3 ∨ ev.K = 4) with k | k | k | k
        · exact event_1 hv A ev k g2.e g1.en (by rw [hst]; exact g2.dead (.inl k))
        · exact event_2 hv A ev k g2.e g1.en (by rw [hst]; exact g2.dead (.inr k))
        · obtain ⟨y1, y2⟩ := g2.yield k
          exact event_3 hv A ev k g2.e g1.en (by rw [hst]; exact y1) (by omega)
        · obtain ⟨y1, y2, y3, y4, y5⟩ := g2.resume k
          have h5 := g1.th5
          have hs2 : statusP M2 (ev.h : Int) = (M2.t ev.h).st := status_in (by omega) (by omega)
          exact event_4 hv A ev k g2.e g1.en (by rw [hst]; exact y1) y2 (by omega) (by omega) (by rw [hs2]; exact y5)
      by_cases hf0 : M.fuel = 0
      · obtain ⟨q1, q2⟩ := hqq hf0
        have q1 : M2.out = M.out := q1
        rcases q2 with q2 | q2 | ⟨v, q2, q3⟩
        · have q2 : ev.K = 1 := q2
          have ht : toldA ev = ⟨ev.E, 1, ev.h, showV ev.v ++ [44] ++ showV ev.w⟩ := by unfold toldA; rw [q2]; rfl
          rw [ht] at hvd hev
          rw [ht]
          exact held_ev3 HV hR x y hx hy A B C S T hA hS _ _ _ hvd hR2 hfu hou hev hf0 q1
        · have q2 : ev.K = 5 := q2
          omega
        · have q3 : ev = ⟨2, 0, 0, v, nilV⟩ := q3
          subst q3
          exact held_ev4 HV hR x y hx hy A B C S T hA hS _ hvd hR2 hfu hou hev hf0 q1 (errs_nc q2)
      · exact held_ev1 HV hR x y hx hy A B C S T hA hS _ _ _ _ hvd hR2 hfu hou hev hf0 (by show (ev.K : Int) ≠ 5; omega) (by show (ev.K : Int) ≠ 6; omega)
    · have g1 : ev = ⟨5, 0, e, nilV, nilV⟩ := g1
      subst g1
      have g4 : Ended M2 := g4
      have hev : ∀ own' w, Vm own' w m a nb tp M2 → Calls Tryz.prog 29 #[.pointer (some ⟨m, 0, none⟩), .int .i64 A, anV (toldA ⟨5, 0, e, nilV, nilV⟩)] w fun en w' => en = .returned (.bool true) ∧ Nx own' w m a nb tp M2 w' := fun own' w hv => event_5 hv (.inr g4) A e g2 g3 g4.nil.2.2.2.2.2.2.2
      by_cases hf0 : M.fuel = 0
      · obtain ⟨q1, q2⟩ := hqq hf0
        exact held_ev5 HV hR x y hx hy A B C S T hA hS _ _ _ hvd hR2 hfu hou hev hf0 q1 (showT_ne g5)
      · exact held_ev2 HV hR x y hx hy A B C S T hA hS _ _ _ hvd hR2 hfu hou hev hf0 (showT_ne g5)
theorem held_any {own : Nat → Nat} {W : World} {m a nb tp : Nat} {M : Mc} (HV : Vm own W m a nb tp M) (hR : Rest M) (x y : V) (hx : x.Ok) (hy : y.Ok) (K A B C : Int) (S T : List UInt8) (hA : I64 A) (hS : S.length ≤ 9223372036854775807) :
    Calls Tryz.prog 11 #[sideV m nb tp, regV x y, opV K A B C S T] W fun e w' => e = .returned (.tuple #[anV (heldP M x y K A S).2, .bool true]) ∧ Nx own W m a nb tp (heldP M x y K A S).1 w' := by
  by_cases h12 : K = 12
  · subst h12
    rw [heldP_12]
    exact held_12 HV x y hx hy A B C S T
  rw [heldP_do M x y A S h12]
  by_cases h3 : K = 3
  · subst h3
    exact held_3 HV hR x y hx hy A B C S T hA hS
  by_cases h4 : K = 4
  · subst h4
    exact held_exec HV hR x y hx hy A B C S T hA hS
  obtain ⟨an, h⟩ := vdo_same M x y A S h3 h4
  rw [h]
  exact held_obs HV hR x y hx hy K A B C S T hA hS h3 h4 h12 an h
set_option maxRecDepth 8000 in
set_option maxHeartbeats 3200000 in
theorem heldH_any {own : Nat → Nat} {W : World} {m a nb tp : Nat} {M : Mc} (HV : Vm own W m a nb tp M) (hR : Rest M) (x y : V) (hx : x.Ok) (hy : y.Ok) (K A B C : Int) (S T : List UInt8) (hA : I64 A) (hS : S.length ≤ 9223372036854775807) :
    Calls Tryz.prog 6 #[sideV m nb tp, regV x y, opV K A B C S T] W fun e w' => e = .returned (.tuple #[anV (heldP M x y K A S).2, .bool true]) ∧ Nx own W m a nb tp (heldP M x y K A S).1 w' := by
  have hR2 := heldP_rest hR x y hx hy K A S hA
  have R0 := ((((RL.start HV).alloc (sO m nb tp) rfl).alloc (rO x y) (n := W.heap.size + 1) (by simp)).alloc (pO K A B C S T) (n := W.heap.size + 1 + 1) (by simp)).alloc aO (n := W.heap.size + 1 + 1 + 1) (by simp)
  obtain ⟨own0, hv0, hN0⟩ := R0.vm
  have HD := held_any hv0 hR x y hx hy K A B C S T hA hS
  generalize (heldP M x y K A S).1 = M2 at *
  generalize (heldP M x y K A S).2 = an at *
  obtain ⟨aE, aN, aM, aS⟩ := an
  have HR2 : Hid (Rest M2) := hR2
  have HN0 : Hid (∀ M2 w2, Nx own0 ((((W.alloc (sO m nb tp)).alloc (rO x y)).alloc (pO K A B C S T)).alloc aO) m a nb tp M2 w2 → RL own W m a nb tp (hB W m nb tp x y K A B C S T) M2 w2) := hN0
  clear HV hv0 R0 hR hx hy hA hS hN0 hR2
  unfold sideV regV at *
  rw [opV_mk] at *
  unfold anV at *
  simp only at HD
  go_enter Tryz.func6, Tryz.ntmps6
  go_wp2_with fail
  refine HD.mono ?_; rintro e w1 ⟨rfl, hn1⟩
  have R1 := (HN0.out _ _ hn1).alloc (.cells #[.int .i64 aE, .int .i64 aN, .int .i64 aM, .string ⟨aS.toArray⟩, .string ⟨#[]⟩] 41) rfl
  obtain ⟨sA0, sA1, sA2, sAz⟩ := cells3 (R1.box (b := W.heap.size) (o := sO m nb tp) (by simp)).1
  have lA0 := (R1.box (b := W.heap.size) (o := sO m nb tp) (by simp)).2
  obtain ⟨own1, hv1, -⟩ := R1.vm
  have HC := checkM_any hv1 HR2.out
  have HR1 : Hid (RL own W m a nb tp _ M2 _) := R1
  clear hn1 HD HN0 hv1 R1
  go_wp2_with fail
  refine HC.mono ?_; rintro e w2 ⟨rfl, hb2⟩
  have R2 := HR1.out.below hb2
  clear hb2 HC HR1 sA0 sA1 sA2 sAz lA0
  obtain ⟨n0, n1, n2, n3, n4, nz⟩ := cells5 (R2.box (b := w1.heap.size) (o := .cells #[.int .i64 aE, .int .i64 aN, .int .i64 aM, .string ⟨aS.toArray⟩, .string ⟨#[]⟩] 41) List.mem_cons_self).1
  have ln := (R2.box (b := w1.heap.size) (o := .cells #[.int .i64 aE, .int .i64 aN, .int .i64 aM, .string ⟨aS.toArray⟩, .string ⟨#[]⟩] 41) List.mem_cons_self).2
  obtain ⟨d0, d1, d2, d3, d4, dz⟩ := cells5 (R2.box (b := W.heap.size + 1 + 1 + 1) (o := aO) (by simp)).1
  have hbl := (R2.box (b := W.heap.size + 1 + 1 + 1) (o := aO) (by simp)).2
  have HPQ : Hid (∀ x0 x1 x2 x3 x4, Nx own W m a nb tp M2 (((((w2.setCell ⟨W.heap.size + 1 + 1 + 1, 0, none⟩ x0).setCell ⟨W.heap.size + 1 + 1 + 1, 1, none⟩ x1).setCell ⟨W.heap.size + 1 + 1 + 1, 2, none⟩ x2).setCell ⟨W.heap.size + 1 + 1 + 1, 3, none⟩ x3).setCell ⟨W.heap.size + 1 + 1 + 1, 4, none⟩ x4)) := fun x0 x1 x2 x3 x4 => R2.put5 (o := aO) (by simp) x0 x1 x2 x3 x4
  clear R2
  go_wp2_with fail
  refine bodyPost_ret (v := .tuple #[.agg #[.int .i64 aE, .int .i64 aN, .int .i64 aM, .string ⟨aS.toArray⟩, .string ⟨#[]⟩], .bool true]) (by simp [results, go_sem, d0, d1, d2, d3, d4]) rfl ?_
  exact ⟨rfl, HPQ.out _ _ _ _ _⟩
end Go.Proofs.Qxb6500293aGreatRR
