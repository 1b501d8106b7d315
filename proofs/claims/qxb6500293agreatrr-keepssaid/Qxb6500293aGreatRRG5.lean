/-
  THE LAW: Event 29.
-/
import Derived.Test.Qxb6500293aGreatRRG4
namespace Go.Proofs.Qxb6500293aGreatRR
open Go.RowKit
open Ieee (double)
set_option linter.unusedVariables false
set_option linter.unusedSimpArgs false

/-- An event that Exec answered, but EvBad. -/
structure EvL (M : Mc) (th : Int) (ev : Ev) : Prop where
  ok : (∃ e, ev = ⟨5, 0, e, nilV, nilV⟩ ∧ (e = 8 ∨ e = 9 ∨ e = 10 ∨ e = 11) ∧ M.en = e ∧ M.th = []) ∨ (M.en = 0 ∧ 0 ≤ th ∧ th.toNat < M.th.length ∧ M.th.length ≤ 5 ∧ EvOk M th.toNat ev)
theorem status_in {M : Mc} {th : Int} (h0 : 0 ≤ th) (h1 : th.toNat < M.th.length) : statusP M th = (M.t th.toNat).st := by
  unfold statusP
  rw [if_neg (by omega)]
theorem status_out {M : Mc} (h : M.th = []) (th : Int) : statusP M th = 0 := by
  unfold statusP
  by_cases c : th < 0 ∨ (M.th.length : Int) ≤ th
  · rw [if_pos c]
  · rw [h] at c
    simp at c
    omega
abbrev aQ (E N M : Int) (S : List UInt8) : Obj := .cells #[.int .i64 E, .int .i64 N, .int .i64 M, .string ⟨S.toArray⟩, .string ⟨#[]⟩] 41

set_option maxRecDepth 8000 in
set_option maxHeartbeats 1600000 in
theorem event_1 {own : Nat → Nat} {W : World} {m a nb tp : Nat} {M : Mc} (HV : Vm own W m a nb tp M) (th : Int) (ev : Ev) (hK : ev.K = 1) (hE : ev.E = 0) (hen : M.en = 0) (hst : statusP M th = 5) :
    Calls Tryz.prog 29 #[.pointer (some ⟨m, 0, none⟩), .int .i64 th, anV (toldA ev)] W fun en w' => en = .returned (.bool true) ∧ Nx own W m a nb tp M w' := by
  have HE := fun w hb => ended_any (HV.below (W' := w) hb)
  have HS := fun w hb => status_any (HV.below (W' := w) hb) th
  have HS2 := fun w hb => status_any (HV.below (W' := w) hb) (ev.h : Int)
  have HNX : Hid (∀ w', Below W.heap.size W w' → Nx own W m a nb tp M w') := fun w' hb => Nx.same HV hb
  obtain ⟨eK, eh, eE, ev1, ev2⟩ := ev
  simp only at *
  subst hK hE
  unfold toldA anV
  simp only
  generalize showV ev1 ++ [44] ++ showV ev2 = ts at *
  rw [hen] at HE
  rw [hst] at HS
  generalize statusP M (eh : Int) = s2 at *
  clear HV
  have HX : Hid (Below W.heap.size W (W.alloc (aQ 0 1 (eh : Int) ts)) ∧ (W.alloc (aQ 0 1 (eh : Int) ts)).heap[W.heap.size]? = some (aQ 0 1 (eh : Int) ts)) := ⟨below_one _ _, World.alloc_heap_new _ _⟩
  go_enter Tryz.func29, Tryz.ntmps29
  go_wp2_with fail
  refine (HE _ HX.out.1).mono ?_; rintro e w1 ⟨rfl, hq⟩
  obtain ⟨hb1, x1⟩ := HX.out
  rw [← hq] at hb1 x1
  obtain ⟨n0, n1, n2, n3, n4, nz⟩ := cells5 x1
  have l1 := heap_lt x1
  have HB1 : Hid (Below W.heap.size W w1) := hb1
  clear hq x1 hb1 HE HX
  go_wp2_with fail
  refine (HS _ HB1.out).mono ?_; rintro e w2 ⟨rfl, hq⟩; have hq := hq.symm; subst hq
  clear HS
  go_wp2_with fail
  refine (HS2 _ HB1.out).mono ?_; rintro e w2 ⟨rfl, hq⟩; have hq := hq.symm; subst hq
  clear HS2
  go_wp2_with fail
  go_ret
  exact ⟨rfl, HNX.out _ HB1.out⟩

set_option maxRecDepth 8000 in
set_option maxHeartbeats 1600000 in
theorem event_2 {own : Nat → Nat} {W : World} {m a nb tp : Nat} {M : Mc} (HV : Vm own W m a nb tp M) (th : Int) (ev : Ev) (hK : ev.K = 2) (hE : ev.E = 0) (hen : M.en = 0) (hst : statusP M th = 5) :
    Calls Tryz.prog 29 #[.pointer (some ⟨m, 0, none⟩), .int .i64 th, anV (toldA ev)] W fun en w' => en = .returned (.bool true) ∧ Nx own W m a nb tp M w' := by
  have HE := fun w hb => ended_any (HV.below (W' := w) hb)
  have HS := fun w hb => status_any (HV.below (W' := w) hb) th
  have HS2 := fun w hb => status_any (HV.below (W' := w) hb) (ev.h : Int)
  have HNX : Hid (∀ w', Below W.heap.size W w' → Nx own W m a nb tp M w') := fun w' hb => Nx.same HV hb
  obtain ⟨eK, eh, eE, ev1, ev2⟩ := ev
  simp only at *
  subst hK hE
  unfold toldA anV
  simp only
  generalize showV ev1 ++ [44] ++ showV ev2 = ts at *
  rw [hen] at HE
  rw [hst] at HS
  generalize statusP M (eh : Int) = s2 at *
  clear HV
  have HX : Hid (Below W.heap.size W (W.alloc (aQ 0 2 (eh : Int) ts)) ∧ (W.alloc (aQ 0 2 (eh : Int) ts)).heap[W.heap.size]? = some (aQ 0 2 (eh : Int) ts)) := ⟨below_one _ _, World.alloc_heap_new _ _⟩
  go_enter Tryz.func29, Tryz.ntmps29
  go_wp2_with fail
  refine (HE _ HX.out.1).mono ?_; rintro e w1 ⟨rfl, hq⟩
  obtain ⟨hb1, x1⟩ := HX.out
  rw [← hq] at hb1 x1
  obtain ⟨n0, n1, n2, n3, n4, nz⟩ := cells5 x1
  have l1 := heap_lt x1
  have HB1 : Hid (Below W.heap.size W w1) := hb1
  clear hq x1 hb1 HE HX
  go_wp2_with fail
  refine (HS _ HB1.out).mono ?_; rintro e w2 ⟨rfl, hq⟩; have hq := hq.symm; subst hq
  clear HS
  go_wp2_with fail
  refine (HS2 _ HB1.out).mono ?_; rintro e w2 ⟨rfl, hq⟩; have hq := hq.symm; subst hq
  clear HS2
  go_wp2_with fail
  go_ret
  exact ⟨rfl, HNX.out _ HB1.out⟩

set_option maxRecDepth 8000 in
set_option maxHeartbeats 1600000 in
theorem event_3 {own : Nat → Nat} {W : World} {m a nb tp : Nat} {M : Mc} (HV : Vm own W m a nb tp M) (th : Int) (ev : Ev) (hK : ev.K = 3) (hE : ev.E = 0) (hen : M.en = 0) (hst : statusP M th = 2) (hth : th ≠ 0) :
    Calls Tryz.prog 29 #[.pointer (some ⟨m, 0, none⟩), .int .i64 th, anV (toldA ev)] W fun en w' => en = .returned (.bool true) ∧ Nx own W m a nb tp M w' := by
  have HE := fun w hb => ended_any (HV.below (W' := w) hb)
  have HS := fun w hb => status_any (HV.below (W' := w) hb) th
  have HS2 := fun w hb => status_any (HV.below (W' := w) hb) (ev.h : Int)
  have HNX : Hid (∀ w', Below W.heap.size W w' → Nx own W m a nb tp M w') := fun w' hb => Nx.same HV hb
  obtain ⟨eK, eh, eE, ev1, ev2⟩ := ev
  simp only at *
  subst hK hE
  unfold toldA anV
  simp only
  generalize showV ev1 ++ [44] ++ showV ev2 = ts at *
  rw [hen] at HE
  rw [hst] at HS
  generalize statusP M (eh : Int) = s2 at *
  have bth : (th != 0) = true := by simpa using hth
  clear HV hth
  have HX : Hid (Below W.heap.size W (W.alloc (aQ 0 3 (eh : Int) ts)) ∧ (W.alloc (aQ 0 3 (eh : Int) ts)).heap[W.heap.size]? = some (aQ 0 3 (eh : Int) ts)) := ⟨below_one _ _, World.alloc_heap_new _ _⟩
  go_enter Tryz.func29, Tryz.ntmps29
  go_wp2_with fail
  refine (HE _ HX.out.1).mono ?_; rintro e w1 ⟨rfl, hq⟩
  obtain ⟨hb1, x1⟩ := HX.out
  rw [← hq] at hb1 x1
  obtain ⟨n0, n1, n2, n3, n4, nz⟩ := cells5 x1
  have l1 := heap_lt x1
  have HB1 : Hid (Below W.heap.size W w1) := hb1
  clear hq x1 hb1 HE HX
  go_wp2_with fail
  refine (HS _ HB1.out).mono ?_; rintro e w2 ⟨rfl, hq⟩; have hq := hq.symm; subst hq
  clear HS
  go_wp2_with fail
  refine (HS2 _ HB1.out).mono ?_; rintro e w2 ⟨rfl, hq⟩; have hq := hq.symm; subst hq
  clear HS2
  go_wp2_with fail
  go_ret
  exact ⟨rfl, HNX.out _ HB1.out⟩

set_option maxRecDepth 8000 in
set_option maxHeartbeats 1600000 in
theorem event_4 {own : Nat → Nat} {W : World} {m a nb tp : Nat} {M : Mc} (HV : Vm own W m a nb tp M) (th : Int) (ev : Ev) (hK : ev.K = 4) (hE : ev.E = 0) (hen : M.en = 0) (hst : statusP M th = 3) (h1 : 1 ≤ ev.h) (h5 : ev.h < 5) (hne : (ev.h : Int) ≠ th) (ho : statusP M (ev.h : Int) = 1 ∨ statusP M (ev.h : Int) = 2) :
    Calls Tryz.prog 29 #[.pointer (some ⟨m, 0, none⟩), .int .i64 th, anV (toldA ev)] W fun en w' => en = .returned (.bool true) ∧ Nx own W m a nb tp M w' := by
  have HE := fun w hb => ended_any (HV.below (W' := w) hb)
  have HS := fun w hb => status_any (HV.below (W' := w) hb) th
  have HS2 := fun w hb => status_any (HV.below (W' := w) hb) (ev.h : Int)
  have HNX : Hid (∀ w', Below W.heap.size W w' → Nx own W m a nb tp M w') := fun w' hb => Nx.same HV hb
  obtain ⟨eK, eh, eE, ev1, ev2⟩ := ev
  simp only at *
  subst hK hE
  unfold toldA anV
  simp only
  generalize showV ev1 ++ [44] ++ showV ev2 = ts at *
  rw [hen] at HE
  rw [hst] at HS
  have d1 : decide ((eh : Int) < 1) = false := decide_eq_false (by omega)
  have d2 : decide ((5 : Int) ≤ (eh : Int)) = false := decide_eq_false (by omega)
  have bth : ((eh : Int) != th) = true := by simpa using hne
  clear HV hne h1 h5
  rcases ho with ho | ho
  · rw [ho] at HS2
    clear ho
    have HX : Hid (Below W.heap.size W (W.alloc (aQ 0 4 (eh : Int) ts)) ∧ (W.alloc (aQ 0 4 (eh : Int) ts)).heap[W.heap.size]? = some (aQ 0 4 (eh : Int) ts)) := ⟨below_one _ _, World.alloc_heap_new _ _⟩
    go_enter Tryz.func29, Tryz.ntmps29
    go_wp2_with fail
    refine (HE _ HX.out.1).mono ?_; rintro e w1 ⟨rfl, hq⟩
    obtain ⟨hb1, x1⟩ := HX.out
    rw [← hq] at hb1 x1
    obtain ⟨n0, n1, n2, n3, n4, nz⟩ := cells5 x1
    have l1 := heap_lt x1
    have HB1 : Hid (Below W.heap.size W w1) := hb1
    clear hq x1 hb1 HE HX
    go_wp2_with fail
    refine (HS _ HB1.out).mono ?_; rintro e w2 ⟨rfl, hq⟩; have hq := hq.symm; subst hq
    clear HS
    go_wp2_with fail
    refine (HS2 _ HB1.out).mono ?_; rintro e w2 ⟨rfl, hq⟩; have hq := hq.symm; subst hq
    clear HS2
    go_wp2_with fail
    go_ret
    exact ⟨rfl, HNX.out _ HB1.out⟩
  · rw [ho] at HS2
    clear ho
    have HX : Hid (Below W.heap.size W (W.alloc (aQ 0 4 (eh : Int) ts)) ∧ (W.alloc (aQ 0 4 (eh : Int) ts)).heap[W.heap.size]? = some (aQ 0 4 (eh : Int) ts)) := ⟨below_one _ _, World.alloc_heap_new _ _⟩
    go_enter Tryz.func29, Tryz.ntmps29
    go_wp2_with fail
    refine (HE _ HX.out.1).mono ?_; rintro e w1 ⟨rfl, hq⟩
    obtain ⟨hb1, x1⟩ := HX.out
    rw [← hq] at hb1 x1
    obtain ⟨n0, n1, n2, n3, n4, nz⟩ := cells5 x1
    have l1 := heap_lt x1
    have HB1 : Hid (Below W.heap.size W w1) := hb1
    clear hq x1 hb1 HE HX
    go_wp2_with fail
    refine (HS _ HB1.out).mono ?_; rintro e w2 ⟨rfl, hq⟩; have hq := hq.symm; subst hq
    clear HS
    go_wp2_with fail
    refine (HS2 _ HB1.out).mono ?_; rintro e w2 ⟨rfl, hq⟩; have hq := hq.symm; subst hq
    clear HS2
    go_wp2_with fail
    go_ret
    exact ⟨rfl, HNX.out _ HB1.out⟩

set_option maxRecDepth 8000 in
set_option maxHeartbeats 1600000 in
theorem event_5 {own : Nat → Nat} {W : World} {m a nb tp : Nat} {M : Mc} (HV : Vm own W m a nb tp M) (hR : Rest M) (th : Int) (e0 : Int) (he : e0 = 8 ∨ e0 = 9 ∨ e0 = 10 ∨ e0 = 11) (hen : M.en = e0) (hth : M.th = []) :
    Calls Tryz.prog 29 #[.pointer (some ⟨m, 0, none⟩), .int .i64 th, anV (toldA ⟨5, 0, e0, nilV, nilV⟩)] W fun en w' => en = .returned (.bool true) ∧ Nx own W m a nb tp M w' := by
  have HE := fun w hb => ended_any (HV.below (W' := w) hb)
  have HS := fun w hb q => status_any (HV.below (W' := w) hb) q
  simp only [status_out hth] at HS
  rw [hen] at HE
  have HEX : Hid (∀ own' w, Vm own' w m a nb tp M → Calls Tryz.prog 37 #[.pointer (some ⟨m, 0, none⟩), .int .i64 0, .agg #[.int .i64 0, .int .u64 0, .string ⟨#[]⟩], .agg #[.int .i64 0, .int .u64 0, .string ⟨#[]⟩]] w fun e w' => e = .returned (.agg #[.int .i64 6, .int .i64 0, .int .i64 0, .int .i64 0, .int .u64 0, .string ⟨#[]⟩, .int .i64 0, .int .u64 0, .string ⟨#[]⟩]) ∧ Nx own' w m a nb tp M w') := by
    intro own' w hv
    have h := exec_any hv hR 0 nilV nilV ⟨by decide, by decide, by decide, by decide⟩ ⟨by decide, by decide, by decide, by decide⟩
    have e : execP M 0 nilV nilV = (M, badEv) := by
      unfold execP
      rw [if_pos (.inl (by rw [hen]; omega))]
    rw [e] at h
    exact h
  have hR1 := RL.start HV
  have q0 : (e0 != 0) = true := by rw [bne_iff_ne]; omega
  have q1 : (e0 != 21) = true := by rw [bne_iff_ne]; omega
  unfold toldA anV
  simp only
  generalize showV nilV ++ [44] ++ showV nilV = ts at *
  have HX : Hid (Below W.heap.size W (W.alloc (aQ e0 5 0 ts)) ∧ (W.alloc (aQ e0 5 0 ts)).heap[W.heap.size]? = some (aQ e0 5 0 ts) ∧ RL own W m a nb tp [(W.heap.size, aQ e0 5 0 ts)] M (W.alloc (aQ e0 5 0 ts))) := ⟨below_one _ _, World.alloc_heap_new _ _, hR1.alloc _ rfl⟩
  clear HV hR he hen hth hR1
  go_enter Tryz.func29, Tryz.ntmps29
  go_wp2_with fail
  refine (HE _ HX.out.1).mono ?_; rintro e w1 ⟨rfl, hq⟩
  obtain ⟨hb1, x1, hrl⟩ := HX.out
  rw [← hq] at hb1 x1 hrl
  obtain ⟨n0, n1, n2, n3, n4, nz⟩ := cells5 x1
  have l1 := heap_lt x1
  have HB1 : Hid (Below W.heap.size W w1 ∧ RL own W m a nb tp [(W.heap.size, aQ e0 5 0 ts)] M w1) := ⟨hb1, hrl⟩
  clear hq x1 hb1 HE HX hrl
  go_wp2_with fail
  refine (HS _ HB1.out.1 th).mono ?_; rintro e w2 ⟨rfl, hq⟩; have hq := hq.symm; subst hq
  go_wp2_with fail
  refine (HS _ HB1.out.1 0).mono ?_; rintro e w2 ⟨rfl, hq⟩; have hq := hq.symm; subst hq
  go_wp2_with fail
  go_loopw [10] (fun iv wr => ∃ i : Nat, iv = .int .i64 (i : Int) ∧ i ≤ 5 ∧ wr = w1) (fun iv _ => 5 - (intOf iv).toNat)
  case atStart => exact ⟨0, rfl, by omega, rfl⟩
  case round =>
    obtain ⟨i, rfl, hi, rfl⟩ := hrel
    by_cases hi5 : i < 5
    · have d : decide ((i : Int) < 5) = true := decide_eq_true (by omega)
      go_wp2_with fail
      refine (HS _ HB1.out.1 (i : Int)).mono ?_; rintro e w2 ⟨rfl, hq⟩; have hq := hq.symm; subst hq
      go_wp2_with fail
      go_roundw
      case rel => exact ⟨i + 1, by go_num, by omega, trivial⟩
      case measure => simp [intOf]; omega
    · have : i = 5 := by omega
      subst this
      obtain ⟨ownr, hvr, hNr⟩ := HB1.out.2.vm
      have HC := HEX.out _ _ hvr
      have HNR : Hid (∀ M2 w2, Nx ownr wr m a nb tp M2 w2 → RL own W m a nb tp [(W.heap.size, aQ e0 5 0 ts)] M2 w2) := hNr
      clear hvr hNr HEX HS
      go_wp2_with fail
      refine HC.mono ?_; rintro e w2 ⟨rfl, hN⟩
      have R2 := HNR.out _ _ hN
      have R3 := R2.alloc (.cells #[.int .i64 6, .int .i64 0, .int .i64 0, .int .i64 0, .int .u64 0, .string ⟨#[]⟩, .int .i64 0, .int .u64 0, .string ⟨#[]⟩] 85) rfl
      obtain ⟨n0, n1, n2, n3, n4, nz⟩ := cells5 (R2.box (b := W.heap.size) (o := aQ e0 5 0 ts) List.mem_cons_self).1
      have l2 := (R2.box (b := W.heap.size) (o := aQ e0 5 0 ts) List.mem_cons_self).2
      have HNF : Hid (Nx own W m a nb tp M (w2.alloc (.cells #[.int .i64 6, .int .i64 0, .int .i64 0, .int .i64 0, .int .u64 0, .string ⟨#[]⟩, .int .i64 0, .int .u64 0, .string ⟨#[]⟩] 85))) := R3.nx
      clear R2 R3 hN HNR HC HB1
      go_wp2_with fail
      go_ret
      exact ⟨rfl, HNF.out⟩
end Go.Proofs.Qxb6500293aGreatRR
