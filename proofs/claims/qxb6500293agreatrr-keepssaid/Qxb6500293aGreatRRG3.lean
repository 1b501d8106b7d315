/-
  THE LAW: its frame; Tabs 8, Do 25.
-/
import Derived.Test.Qxb6500293aGreatRRG0
namespace Go.Proofs.Qxb6500293aGreatRR
open Go.RowKit
open Ieee (double)
set_option linter.unusedVariables false
set_option linter.unusedSimpArgs false

/-- In the midst of a function of the law: the machine is at M; B are the function's own boxes. -/
structure RL (own : Nat → Nat) (W : World) (m a nb tp : Nat) (B : List (Nat × Obj)) (M : Mc) (w : World) : Prop where
  rn : ∃ fs, Rn own W m a nb tp 0 fs B M w
section
variable {own : Nat → Nat} {W w w' : World} {m a nb tp : Nat} {B : List (Nat × Obj)} {M : Mc}
theorem RL.start (h : Vm own W m a nb tp M) : RL own W m a nb tp [] M W := ⟨_, Rn.start h⟩
theorem RL.below (h : RL own W m a nb tp B M w) (hb : Below w.heap.size w w') : RL own W m a nb tp B M w' := by
  obtain ⟨fs, h⟩ := h.rn
  exact ⟨fs, h.below hb⟩
theorem RL.alloc (h : RL own W m a nb tp B M w) (o : Obj) {n : Nat} (hn : w.heap.size = n) : RL own W m a nb tp ((n, o) :: B) M (w.alloc o) := by
  subst hn
  obtain ⟨fs, h⟩ := h.rn
  exact ⟨fs, h.alloc o⟩
theorem RL.vm (h : RL own W m a nb tp B M w) : ∃ own', Vm own' w m a nb tp M ∧ ∀ M2 w2, Nx own' w m a nb tp M2 w2 → RL own W m a nb tp B M2 w2 := by
  obtain ⟨fs, h⟩ := h.rn
  obtain ⟨own1, h1, _, h3⟩ := h.vm
  exact ⟨own1, h1, fun M2 w2 hn => ⟨_, h3 _ _ hn⟩⟩
theorem RL.box (h : RL own W m a nb tp B M w) {b : Nat} {o : Obj} (hb : (b, o) ∈ B) : w.heap[b]? = some o ∧ b < w.heap.size := by
  obtain ⟨fs, h⟩ := h.rn
  exact ⟨(h.box hb).1, (h.box hb).2.2.1⟩
theorem RL.nx (h : RL own W m a nb tp B M w) : Nx own W m a nb tp M w := by
  obtain ⟨fs, h⟩ := h.rn
  exact h.nx
/-- The answer's box is written. -/
theorem RL.put5 (h : RL own W m a nb tp B M w) {b : Nat} {o : Obj} (hb : (b, o) ∈ B) (x0 x1 x2 x3 x4 : Value) : Nx own W m a nb tp M (((((w.setCell ⟨b, 0, none⟩ x0).setCell ⟨b, 1, none⟩ x1).setCell ⟨b, 2, none⟩ x2).setCell ⟨b, 3, none⟩ x3).setCell ⟨b, 4, none⟩ x4) := by
  obtain ⟨fs, h⟩ := h.rn
  have hm : b ∈ B.map Prod.fst := List.mem_map_of_mem (f := Prod.fst) hb
  exact (((((h.weak.put hm 0 x0).put hm 1 x1).put hm 2 x2).put hm 3 x3).put hm 4 x4).nx
end
theorem cells6 {w : World} {b : Nat} {x0 x1 x2 x3 x4 x5 : Value} {ty : TypeId} (h : w.heap[b]? = some (.cells #[x0, x1, x2, x3, x4, x5] ty)) : w.cell? ⟨b, 0, none⟩ = some x0 ∧ w.cell? ⟨b, 1, none⟩ = some x1 ∧ w.cell? ⟨b, 2, none⟩ = some x2 ∧ w.cell? ⟨b, 3, none⟩ = some x3 ∧ w.cell? ⟨b, 4, none⟩ = some x4 ∧ w.cell? ⟨b, 5, none⟩ = some x5 ∧ ∀ k, w.frozen? ⟨b, k, none⟩ = false := by
  simp [World.cell?, World.frozen?, h]
theorem cells2 {w : World} {b : Nat} {x0 x1 : Value} {ty : TypeId} (h : w.heap[b]? = some (.cells #[x0, x1] ty)) : w.cell? ⟨b, 0, none⟩ = some x0 ∧ w.cell? ⟨b, 1, none⟩ = some x1 ∧ ∀ k, w.frozen? ⟨b, k, none⟩ = false := by
  simp [World.cell?, World.frozen?, h]
abbrev bO (nb tp : Nat) : Obj := .cells #[.pointer (some ⟨nb, 0, none⟩), .pointer (some ⟨tp, 0, none⟩)] 27
abbrev belV (nb tp : Nat) : Value := .agg #[.pointer (some ⟨nb, 0, none⟩), .pointer (some ⟨tp, 0, none⟩)]
abbrev rO (a b : V) : Obj := .cells #[.int .i64 a.T, .int .u64 (a.N : Int), .string ⟨a.S.toArray⟩, .int .i64 b.T, .int .u64 (b.N : Int), .string ⟨b.S.toArray⟩] 35
abbrev pO (K A B C : Int) (S T : List UInt8) : Obj := .cells #[.int .i64 K, .int .i64 A, .int .i64 B, .int .i64 C, .string ⟨S.toArray⟩, .string ⟨T.toArray⟩] 37
abbrev aO : Obj := .cells #[.int .i64 0, .int .i64 0, .int .i64 0, .string ⟨#[]⟩, .string ⟨#[]⟩] 41
theorem tabs_any {own : Nat → Nat} {W : World} {m a nb tp : Nat} {M : Mc} (HV : Vm own W m a nb tp M) : Calls Tryz.prog 8 #[belV nb tp] W fun e w' => e = .returned (.string ⟨(showT M.tb).toArray⟩) ∧ Below W.heap.size W w' := by
  have hV1 := HV.below (below_one W (bO nb tp))
  obtain ⟨h1, h2, _⟩ := hV1.tabR
  have HS := rshow own tp M.tb _ h1 h2
  clear h1 h2 hV1 HV
  go_enter Tryz.func8, Tryz.ntmps8
  go_wp2_with fail
  refine HS.mono ?_; rintro e w1 ⟨rfl, hb⟩
  have HB : Hid (Below W.heap.size W w1) := below_two (below_one _ _) hb
  clear hb HS
  go_wp2_with fail
  go_ret
  exact ⟨rfl, HB.out⟩
/-- b2i. -/
theorem b2i_any (b : Bool) (w : World) : Calls Tryz.prog 43 #[.bool b] w fun e w' => e = .returned (.int .i64 (if b then 1 else 0)) ∧ w' = w := by
  cases b
  · go_enter Tryz.func43, Tryz.ntmps43
    go_wp2
    go_ret
    exact ⟨rfl, rfl⟩
  · go_enter Tryz.func43, Tryz.ntmps43
    go_wp2
    go_ret
    exact ⟨rfl, rfl⟩
/-- An answer. -/
structure An where
  E : Int
  N : Int
  M : Int
  S : List UInt8
def anV (x : An) : Value := .agg #[.int .i64 x.E, .int .i64 x.N, .int .i64 x.M, .string ⟨x.S.toArray⟩, .string ⟨#[]⟩]
def toldA (e : Ev) : An := ⟨e.E, e.K, e.h, showV e.v ++ [44] ++ showV e.w⟩
/-- Do. -/
def vdoP (M : Mc) (a b : V) (K A : Int) (S : List UInt8) : Mc × An :=
  if K = 3 then ((loadP S A).1, ⟨(loadP S A).2, 0, 0, []⟩)
  else if K = 4 then ((execP M A a b).1, toldA (execP M A a b).2)
  else if K = 5 then (M, ⟨0, 0, 0, M.out⟩)
  else if K = 6 then (M, ⟨0, M.fuel, 0, []⟩)
  else if K = 7 then (M, ⟨M.en, 0, 0, []⟩)
  else if K = 8 then (M, ⟨0, statusP M A, 0, []⟩)
  else if K = 9 then (M, ⟨0, 0, 0, showP M⟩)
  else if K = 10 then (M, ⟨0, 1, 0, []⟩)
  else if K = 11 then (M, ⟨0, 0, 0, showT M.tb⟩)
  else (M, ⟨0, 0, 0, []⟩)
/-- What an event's values are. -/
theorem exec_ev {M : Mc} (hR : Rest M) (th : Int) {a b : V} (ha : a.N < 18446744073709551616) (hb : b.N < 18446744073709551616) : (wfB (execP M th a b).2.v = true ∧ (execP M th a b).2.v.N < 18446744073709551616) ∧ (wfB (execP M th a b).2.w = true ∧ (execP M th a b).2.w.N < 18446744073709551616) ∧ Rest (execP M th a b).1 := by
  have hn : wfB nilV = true ∧ nilV.N < 18446744073709551616 := ⟨by decide, by decide⟩
  rcases exec_keeps hR th ha hb with h | ⟨_, _, _, h⟩
  · rw [h]; exact ⟨hn, hn, hR⟩
  · rcases h.ev with ⟨h1, h2, _⟩ | ⟨e, h1, _, _, h2, _⟩
    · exact ⟨⟨h2.v.wf, h2.v.2⟩, ⟨h2.w.wf, h2.w.2⟩, .inl h1⟩
    · rw [h1]; exact ⟨hn, hn, .inr h2⟩

set_option maxRecDepth 8000 in
set_option maxHeartbeats 1600000 in
theorem vdo_3 {own : Nat → Nat} {W : World} {m a nb tp : Nat} {M : Mc} (HV : Vm own W m a nb tp M) (hR : Rest M) (x y : V) (hx : x.Ok) (hy : y.Ok) (A B C : Int) (S T : List UInt8) (hA : I64 A) (hS : S.length ≤ 9223372036854775807) :
    Calls Tryz.prog 25 #[.pointer (some ⟨m, 0, none⟩), belV nb tp, regV x y, opV 3 A B C S T] W fun e w' => e = .returned (anV (vdoP M x y 3 A S).2) ∧ Nx own W m a nb tp (vdoP M x y 3 A S).1 w' := by
  have HD : Hid (vdoP M x y 3 A S = ((loadP S A).1, (⟨(loadP S A).2, 0, 0, []⟩ : An))) := by
    show _ = _
    unfold vdoP
    rw [if_pos rfl]
  have R0 := ((((RL.start HV).alloc (bO nb tp) rfl).alloc (rO x y) (n := W.heap.size + 1) (by simp)).alloc (pO 3 A B C S T) (n := W.heap.size + 1 + 1) (by simp)).alloc aO (n := W.heap.size + 1 + 1 + 1) (by simp)
  have hR0 := R0
  obtain ⟨own0, hv0, hN0⟩ := R0.vm
  have HC := load_any hv0 S A hS hA
  clear HV hv0 R0
  unfold regV
  rw [opV_mk]
  obtain ⟨xT, xN, xS⟩ := x
  obtain ⟨yT, yN, yS⟩ := y
  simp only [valV_mk] at *
  go_enter Tryz.func25, Tryz.ntmps25
  go_wp2_with fail
  refine HC.mono ?_; rintro e w1 ⟨rfl, hN⟩
  have R1 := hN0 _ _ hN
  clear hN hN0
  generalize (loadP S A).1 = M2 at *
  generalize (loadP S A).2 = E2 at *
  obtain ⟨d0, d1, d2, d3, d4, dz⟩ := cells5 (R1.box (b := W.heap.size + 1 + 1 + 1) (o := aO) List.mem_cons_self).1
  have hbl := (R1.box (b := W.heap.size + 1 + 1 + 1) (o := aO) List.mem_cons_self).2
  have HP : Hid (∀ x0 x1 x2 x3 x4, Nx own W m a nb tp (M2) (((((w1.setCell ⟨W.heap.size + 1 + 1 + 1, 0, none⟩ x0).setCell ⟨W.heap.size + 1 + 1 + 1, 1, none⟩ x1).setCell ⟨W.heap.size + 1 + 1 + 1, 2, none⟩ x2).setCell ⟨W.heap.size + 1 + 1 + 1, 3, none⟩ x3).setCell ⟨W.heap.size + 1 + 1 + 1, 4, none⟩ x4)) := fun x0 x1 x2 x3 x4 => R1.put5 (o := aO) List.mem_cons_self x0 x1 x2 x3 x4
  clear R1 hR0 HC
  go_wp2_with fail
  refine bodyPost_ret (v := anV ((⟨E2, 0, 0, []⟩ : An))) (by simp [results, go_sem, d0, d1, d2, d3, d4, anV]) rfl ?_
  rw [HD.out]
  exact ⟨rfl, HP.out _ _ _ _ _⟩

set_option maxRecDepth 8000 in
set_option maxHeartbeats 1600000 in
theorem vdo_5 {own : Nat → Nat} {W : World} {m a nb tp : Nat} {M : Mc} (HV : Vm own W m a nb tp M) (hR : Rest M) (x y : V) (hx : x.Ok) (hy : y.Ok) (A B C : Int) (S T : List UInt8) (hA : I64 A) (hS : S.length ≤ 9223372036854775807) :
    Calls Tryz.prog 25 #[.pointer (some ⟨m, 0, none⟩), belV nb tp, regV x y, opV 5 A B C S T] W fun e w' => e = .returned (anV (vdoP M x y 5 A S).2) ∧ Nx own W m a nb tp (vdoP M x y 5 A S).1 w' := by
  have HD : Hid (vdoP M x y 5 A S = (M, (⟨0, 0, 0, M.out⟩ : An))) := by
    show _ = _
    unfold vdoP
    rw [if_neg (by decide), if_neg (by decide), if_pos rfl]
  have R0 := ((((RL.start HV).alloc (bO nb tp) rfl).alloc (rO x y) (n := W.heap.size + 1) (by simp)).alloc (pO 5 A B C S T) (n := W.heap.size + 1 + 1) (by simp)).alloc aO (n := W.heap.size + 1 + 1 + 1) (by simp)
  have hR0 := R0
  obtain ⟨own0, hv0, hN0⟩ := R0.vm
  have HC := Out_any hv0
  clear HV hv0 R0
  unfold regV
  rw [opV_mk]
  obtain ⟨xT, xN, xS⟩ := x
  obtain ⟨yT, yN, yS⟩ := y
  simp only [valV_mk] at *
  go_enter Tryz.func25, Tryz.ntmps25
  go_wp2_with fail
  refine HC.mono ?_; rintro e w1 ⟨rfl, hq⟩
  have R1 := hR0
  rw [← hq] at R1
  clear hq
  clear hN0
  generalize hot : M.out = ot at HD
  obtain ⟨d0, d1, d2, d3, d4, dz⟩ := cells5 (R1.box (b := W.heap.size + 1 + 1 + 1) (o := aO) List.mem_cons_self).1
  have hbl := (R1.box (b := W.heap.size + 1 + 1 + 1) (o := aO) List.mem_cons_self).2
  have HP : Hid (∀ x0 x1 x2 x3 x4, Nx own W m a nb tp (M) (((((w1.setCell ⟨W.heap.size + 1 + 1 + 1, 0, none⟩ x0).setCell ⟨W.heap.size + 1 + 1 + 1, 1, none⟩ x1).setCell ⟨W.heap.size + 1 + 1 + 1, 2, none⟩ x2).setCell ⟨W.heap.size + 1 + 1 + 1, 3, none⟩ x3).setCell ⟨W.heap.size + 1 + 1 + 1, 4, none⟩ x4)) := fun x0 x1 x2 x3 x4 => R1.put5 (o := aO) List.mem_cons_self x0 x1 x2 x3 x4
  clear R1 hR0 HC
  go_wp2_with fail
  refine bodyPost_ret (v := anV ((⟨0, 0, 0, ot⟩ : An))) (by simp [results, go_sem, d0, d1, d2, d3, d4, anV]) rfl ?_
  rw [HD.out]
  exact ⟨rfl, HP.out _ _ _ _ _⟩

set_option maxRecDepth 8000 in
set_option maxHeartbeats 1600000 in
theorem vdo_6 {own : Nat → Nat} {W : World} {m a nb tp : Nat} {M : Mc} (HV : Vm own W m a nb tp M) (hR : Rest M) (x y : V) (hx : x.Ok) (hy : y.Ok) (A B C : Int) (S T : List UInt8) (hA : I64 A) (hS : S.length ≤ 9223372036854775807) :
    Calls Tryz.prog 25 #[.pointer (some ⟨m, 0, none⟩), belV nb tp, regV x y, opV 6 A B C S T] W fun e w' => e = .returned (anV (vdoP M x y 6 A S).2) ∧ Nx own W m a nb tp (vdoP M x y 6 A S).1 w' := by
  have HD : Hid (vdoP M x y 6 A S = (M, (⟨0, M.fuel, 0, []⟩ : An))) := by
    show _ = _
    unfold vdoP
    rw [if_neg (by decide), if_neg (by decide), if_neg (by decide), if_pos rfl]
  have R0 := ((((RL.start HV).alloc (bO nb tp) rfl).alloc (rO x y) (n := W.heap.size + 1) (by simp)).alloc (pO 6 A B C S T) (n := W.heap.size + 1 + 1) (by simp)).alloc aO (n := W.heap.size + 1 + 1 + 1) (by simp)
  have hR0 := R0
  obtain ⟨own0, hv0, hN0⟩ := R0.vm
  have HC := fuel_any hv0
  clear HV hv0 R0
  unfold regV
  rw [opV_mk]
  obtain ⟨xT, xN, xS⟩ := x
  obtain ⟨yT, yN, yS⟩ := y
  simp only [valV_mk] at *
  go_enter Tryz.func25, Tryz.ntmps25
  go_wp2_with fail
  refine HC.mono ?_; rintro e w1 ⟨rfl, hq⟩
  have R1 := hR0
  rw [← hq] at R1
  clear hq
  clear hN0
  obtain ⟨d0, d1, d2, d3, d4, dz⟩ := cells5 (R1.box (b := W.heap.size + 1 + 1 + 1) (o := aO) List.mem_cons_self).1
  have hbl := (R1.box (b := W.heap.size + 1 + 1 + 1) (o := aO) List.mem_cons_self).2
  have HP : Hid (∀ x0 x1 x2 x3 x4, Nx own W m a nb tp (M) (((((w1.setCell ⟨W.heap.size + 1 + 1 + 1, 0, none⟩ x0).setCell ⟨W.heap.size + 1 + 1 + 1, 1, none⟩ x1).setCell ⟨W.heap.size + 1 + 1 + 1, 2, none⟩ x2).setCell ⟨W.heap.size + 1 + 1 + 1, 3, none⟩ x3).setCell ⟨W.heap.size + 1 + 1 + 1, 4, none⟩ x4)) := fun x0 x1 x2 x3 x4 => R1.put5 (o := aO) List.mem_cons_self x0 x1 x2 x3 x4
  clear R1 hR0 HC
  go_wp2_with fail
  refine bodyPost_ret (v := anV ((⟨0, M.fuel, 0, []⟩ : An))) (by simp [results, go_sem, d0, d1, d2, d3, d4, anV]) rfl ?_
  rw [HD.out]
  exact ⟨rfl, HP.out _ _ _ _ _⟩

set_option maxRecDepth 8000 in
set_option maxHeartbeats 1600000 in
theorem vdo_7 {own : Nat → Nat} {W : World} {m a nb tp : Nat} {M : Mc} (HV : Vm own W m a nb tp M) (hR : Rest M) (x y : V) (hx : x.Ok) (hy : y.Ok) (A B C : Int) (S T : List UInt8) (hA : I64 A) (hS : S.length ≤ 9223372036854775807) :
    Calls Tryz.prog 25 #[.pointer (some ⟨m, 0, none⟩), belV nb tp, regV x y, opV 7 A B C S T] W fun e w' => e = .returned (anV (vdoP M x y 7 A S).2) ∧ Nx own W m a nb tp (vdoP M x y 7 A S).1 w' := by
  have HD : Hid (vdoP M x y 7 A S = (M, (⟨M.en, 0, 0, []⟩ : An))) := by
    show _ = _
    unfold vdoP
    rw [if_neg (by decide), if_neg (by decide), if_neg (by decide), if_neg (by decide), if_pos rfl]
  have R0 := ((((RL.start HV).alloc (bO nb tp) rfl).alloc (rO x y) (n := W.heap.size + 1) (by simp)).alloc (pO 7 A B C S T) (n := W.heap.size + 1 + 1) (by simp)).alloc aO (n := W.heap.size + 1 + 1 + 1) (by simp)
  have hR0 := R0
  obtain ⟨own0, hv0, hN0⟩ := R0.vm
  have HC := ended_any hv0
  clear HV hv0 R0
  unfold regV
  rw [opV_mk]
  obtain ⟨xT, xN, xS⟩ := x
  obtain ⟨yT, yN, yS⟩ := y
  simp only [valV_mk] at *
  go_enter Tryz.func25, Tryz.ntmps25
  go_wp2_with fail
  refine HC.mono ?_; rintro e w1 ⟨rfl, hq⟩
  have R1 := hR0
  rw [← hq] at R1
  clear hq
  clear hN0
  obtain ⟨d0, d1, d2, d3, d4, dz⟩ := cells5 (R1.box (b := W.heap.size + 1 + 1 + 1) (o := aO) List.mem_cons_self).1
  have hbl := (R1.box (b := W.heap.size + 1 + 1 + 1) (o := aO) List.mem_cons_self).2
  have HP : Hid (∀ x0 x1 x2 x3 x4, Nx own W m a nb tp (M) (((((w1.setCell ⟨W.heap.size + 1 + 1 + 1, 0, none⟩ x0).setCell ⟨W.heap.size + 1 + 1 + 1, 1, none⟩ x1).setCell ⟨W.heap.size + 1 + 1 + 1, 2, none⟩ x2).setCell ⟨W.heap.size + 1 + 1 + 1, 3, none⟩ x3).setCell ⟨W.heap.size + 1 + 1 + 1, 4, none⟩ x4)) := fun x0 x1 x2 x3 x4 => R1.put5 (o := aO) List.mem_cons_self x0 x1 x2 x3 x4
  clear R1 hR0 HC
  go_wp2_with fail
  refine bodyPost_ret (v := anV ((⟨M.en, 0, 0, []⟩ : An))) (by simp [results, go_sem, d0, d1, d2, d3, d4, anV]) rfl ?_
  rw [HD.out]
  exact ⟨rfl, HP.out _ _ _ _ _⟩

set_option maxRecDepth 8000 in
set_option maxHeartbeats 1600000 in
theorem vdo_8 {own : Nat → Nat} {W : World} {m a nb tp : Nat} {M : Mc} (HV : Vm own W m a nb tp M) (hR : Rest M) (x y : V) (hx : x.Ok) (hy : y.Ok) (A B C : Int) (S T : List UInt8) (hA : I64 A) (hS : S.length ≤ 9223372036854775807) :
    Calls Tryz.prog 25 #[.pointer (some ⟨m, 0, none⟩), belV nb tp, regV x y, opV 8 A B C S T] W fun e w' => e = .returned (anV (vdoP M x y 8 A S).2) ∧ Nx own W m a nb tp (vdoP M x y 8 A S).1 w' := by
  have HD : Hid (vdoP M x y 8 A S = (M, (⟨0, statusP M A, 0, []⟩ : An))) := by
    show _ = _
    unfold vdoP
    rw [if_neg (by decide), if_neg (by decide), if_neg (by decide), if_neg (by decide), if_neg (by decide), if_pos rfl]
  have R0 := ((((RL.start HV).alloc (bO nb tp) rfl).alloc (rO x y) (n := W.heap.size + 1) (by simp)).alloc (pO 8 A B C S T) (n := W.heap.size + 1 + 1) (by simp)).alloc aO (n := W.heap.size + 1 + 1 + 1) (by simp)
  have hR0 := R0
  obtain ⟨own0, hv0, hN0⟩ := R0.vm
  have HC := status_any hv0 A
  clear HV hv0 R0
  unfold regV
  rw [opV_mk]
  obtain ⟨xT, xN, xS⟩ := x
  obtain ⟨yT, yN, yS⟩ := y
  simp only [valV_mk] at *
  go_enter Tryz.func25, Tryz.ntmps25
  go_wp2_with fail
  refine HC.mono ?_; rintro e w1 ⟨rfl, hq⟩
  have R1 := hR0
  rw [← hq] at R1
  clear hq
  clear hN0
  obtain ⟨d0, d1, d2, d3, d4, dz⟩ := cells5 (R1.box (b := W.heap.size + 1 + 1 + 1) (o := aO) List.mem_cons_self).1
  have hbl := (R1.box (b := W.heap.size + 1 + 1 + 1) (o := aO) List.mem_cons_self).2
  have HP : Hid (∀ x0 x1 x2 x3 x4, Nx own W m a nb tp (M) (((((w1.setCell ⟨W.heap.size + 1 + 1 + 1, 0, none⟩ x0).setCell ⟨W.heap.size + 1 + 1 + 1, 1, none⟩ x1).setCell ⟨W.heap.size + 1 + 1 + 1, 2, none⟩ x2).setCell ⟨W.heap.size + 1 + 1 + 1, 3, none⟩ x3).setCell ⟨W.heap.size + 1 + 1 + 1, 4, none⟩ x4)) := fun x0 x1 x2 x3 x4 => R1.put5 (o := aO) List.mem_cons_self x0 x1 x2 x3 x4
  clear R1 hR0 HC
  go_wp2_with fail
  refine bodyPost_ret (v := anV ((⟨0, statusP M A, 0, []⟩ : An))) (by simp [results, go_sem, d0, d1, d2, d3, d4, anV]) rfl ?_
  rw [HD.out]
  exact ⟨rfl, HP.out _ _ _ _ _⟩

set_option maxRecDepth 8000 in
set_option maxHeartbeats 1600000 in
theorem vdo_9 {own : Nat → Nat} {W : World} {m a nb tp : Nat} {M : Mc} (HV : Vm own W m a nb tp M) (hR : Rest M) (x y : V) (hx : x.Ok) (hy : y.Ok) (A B C : Int) (S T : List UInt8) (hA : I64 A) (hS : S.length ≤ 9223372036854775807) :
    Calls Tryz.prog 25 #[.pointer (some ⟨m, 0, none⟩), belV nb tp, regV x y, opV 9 A B C S T] W fun e w' => e = .returned (anV (vdoP M x y 9 A S).2) ∧ Nx own W m a nb tp (vdoP M x y 9 A S).1 w' := by
  have HD : Hid (vdoP M x y 9 A S = (M, (⟨0, 0, 0, showP M⟩ : An))) := by
    show _ = _
    unfold vdoP
    rw [if_neg (by decide), if_neg (by decide), if_neg (by decide), if_neg (by decide), if_neg (by decide), if_neg (by decide), if_pos rfl]
  have R0 := ((((RL.start HV).alloc (bO nb tp) rfl).alloc (rO x y) (n := W.heap.size + 1) (by simp)).alloc (pO 9 A B C S T) (n := W.heap.size + 1 + 1) (by simp)).alloc aO (n := W.heap.size + 1 + 1 + 1) (by simp)
  have hR0 := R0
  obtain ⟨own0, hv0, hN0⟩ := R0.vm
  have HC := showM_any hv0 hR
  clear HV hv0 R0
  unfold regV
  rw [opV_mk]
  obtain ⟨xT, xN, xS⟩ := x
  obtain ⟨yT, yN, yS⟩ := y
  simp only [valV_mk] at *
  go_enter Tryz.func25, Tryz.ntmps25
  go_wp2_with fail
  refine HC.mono ?_; rintro e w1 ⟨rfl, hb⟩
  have R1 := hR0.below hb
  clear hN0 hb
  generalize showP M = sp at *
  obtain ⟨d0, d1, d2, d3, d4, dz⟩ := cells5 (R1.box (b := W.heap.size + 1 + 1 + 1) (o := aO) List.mem_cons_self).1
  have hbl := (R1.box (b := W.heap.size + 1 + 1 + 1) (o := aO) List.mem_cons_self).2
  have HP : Hid (∀ x0 x1 x2 x3 x4, Nx own W m a nb tp (M) (((((w1.setCell ⟨W.heap.size + 1 + 1 + 1, 0, none⟩ x0).setCell ⟨W.heap.size + 1 + 1 + 1, 1, none⟩ x1).setCell ⟨W.heap.size + 1 + 1 + 1, 2, none⟩ x2).setCell ⟨W.heap.size + 1 + 1 + 1, 3, none⟩ x3).setCell ⟨W.heap.size + 1 + 1 + 1, 4, none⟩ x4)) := fun x0 x1 x2 x3 x4 => R1.put5 (o := aO) List.mem_cons_self x0 x1 x2 x3 x4
  clear R1 hR0 HC
  go_wp2_with fail
  refine bodyPost_ret (v := anV ((⟨0, 0, 0, sp⟩ : An))) (by simp [results, go_sem, d0, d1, d2, d3, d4, anV]) rfl ?_
  rw [HD.out]
  exact ⟨rfl, HP.out _ _ _ _ _⟩

set_option maxRecDepth 8000 in
set_option maxHeartbeats 1600000 in
theorem vdo_11 {own : Nat → Nat} {W : World} {m a nb tp : Nat} {M : Mc} (HV : Vm own W m a nb tp M) (hR : Rest M) (x y : V) (hx : x.Ok) (hy : y.Ok) (A B C : Int) (S T : List UInt8) (hA : I64 A) (hS : S.length ≤ 9223372036854775807) :
    Calls Tryz.prog 25 #[.pointer (some ⟨m, 0, none⟩), belV nb tp, regV x y, opV 11 A B C S T] W fun e w' => e = .returned (anV (vdoP M x y 11 A S).2) ∧ Nx own W m a nb tp (vdoP M x y 11 A S).1 w' := by
  have HD : Hid (vdoP M x y 11 A S = (M, (⟨0, 0, 0, showT M.tb⟩ : An))) := by
    show _ = _
    unfold vdoP
    rw [if_neg (by decide), if_neg (by decide), if_neg (by decide), if_neg (by decide), if_neg (by decide), if_neg (by decide), if_neg (by decide), if_neg (by decide), if_pos rfl]
  have R0 := ((((RL.start HV).alloc (bO nb tp) rfl).alloc (rO x y) (n := W.heap.size + 1) (by simp)).alloc (pO 11 A B C S T) (n := W.heap.size + 1 + 1) (by simp)).alloc aO (n := W.heap.size + 1 + 1 + 1) (by simp)
  have hR0 := R0
  obtain ⟨own0, hv0, hN0⟩ := R0.vm
  have HC := tabs_any hv0
  clear HV hv0 R0
  unfold regV
  rw [opV_mk]
  obtain ⟨xT, xN, xS⟩ := x
  obtain ⟨yT, yN, yS⟩ := y
  simp only [valV_mk] at *
  go_enter Tryz.func25, Tryz.ntmps25
  go_wp2_with fail
  refine HC.mono ?_; rintro e w1 ⟨rfl, hb⟩
  have R1 := hR0.below hb
  clear hN0 hb
  generalize showT M.tb = sp at *
  obtain ⟨d0, d1, d2, d3, d4, dz⟩ := cells5 (R1.box (b := W.heap.size + 1 + 1 + 1) (o := aO) List.mem_cons_self).1
  have hbl := (R1.box (b := W.heap.size + 1 + 1 + 1) (o := aO) List.mem_cons_self).2
  have HP : Hid (∀ x0 x1 x2 x3 x4, Nx own W m a nb tp (M) (((((w1.setCell ⟨W.heap.size + 1 + 1 + 1, 0, none⟩ x0).setCell ⟨W.heap.size + 1 + 1 + 1, 1, none⟩ x1).setCell ⟨W.heap.size + 1 + 1 + 1, 2, none⟩ x2).setCell ⟨W.heap.size + 1 + 1 + 1, 3, none⟩ x3).setCell ⟨W.heap.size + 1 + 1 + 1, 4, none⟩ x4)) := fun x0 x1 x2 x3 x4 => R1.put5 (o := aO) List.mem_cons_self x0 x1 x2 x3 x4
  clear R1 hR0 HC
  go_wp2_with fail
  refine bodyPost_ret (v := anV ((⟨0, 0, 0, sp⟩ : An))) (by simp [results, go_sem, d0, d1, d2, d3, d4, anV]) rfl ?_
  rw [HD.out]
  exact ⟨rfl, HP.out _ _ _ _ _⟩

set_option maxRecDepth 8000 in
set_option maxHeartbeats 1600000 in
theorem vdo_10 {own : Nat → Nat} {W : World} {m a nb tp : Nat} {M : Mc} (HV : Vm own W m a nb tp M) (hR : Rest M) (x y : V) (hx : x.Ok) (hy : y.Ok) (A B C : Int) (S T : List UInt8) (hA : I64 A) (hS : S.length ≤ 9223372036854775807) :
    Calls Tryz.prog 25 #[.pointer (some ⟨m, 0, none⟩), belV nb tp, regV x y, opV 10 A B C S T] W fun e w' => e = .returned (anV (vdoP M x y 10 A S).2) ∧ Nx own W m a nb tp (vdoP M x y 10 A S).1 w' := by
  have HD : Hid (vdoP M x y 10 A S = (M, (⟨0, 1, 0, []⟩ : An))) := by
    show _ = _
    unfold vdoP
    rw [if_neg (by decide), if_neg (by decide), if_neg (by decide), if_neg (by decide), if_neg (by decide), if_neg (by decide), if_neg (by decide), if_pos rfl]
  have R0 := ((((RL.start HV).alloc (bO nb tp) rfl).alloc (rO x y) (n := W.heap.size + 1) (by simp)).alloc (pO 10 A B C S T) (n := W.heap.size + 1 + 1) (by simp)).alloc aO (n := W.heap.size + 1 + 1 + 1) (by simp)
  have hR0 := R0
  obtain ⟨own0, hv0, hN0⟩ := R0.vm
  have HC := checkM_any hv0 hR
  clear HV hv0 R0
  unfold regV
  rw [opV_mk]
  obtain ⟨xT, xN, xS⟩ := x
  obtain ⟨yT, yN, yS⟩ := y
  simp only [valV_mk] at *
  go_enter Tryz.func25, Tryz.ntmps25
  go_wp2_with fail
  refine HC.mono ?_; rintro e w1 ⟨rfl, hb⟩
  have R1 := hR0.below hb
  clear hN0 hb
  have HB2 := b2i_any true
  obtain ⟨d0, d1, d2, d3, d4, dz⟩ := cells5 (R1.box (b := W.heap.size + 1 + 1 + 1) (o := aO) List.mem_cons_self).1
  have hbl := (R1.box (b := W.heap.size + 1 + 1 + 1) (o := aO) List.mem_cons_self).2
  have HP : Hid (∀ x0 x1 x2 x3 x4, Nx own W m a nb tp (M) (((((w1.setCell ⟨W.heap.size + 1 + 1 + 1, 0, none⟩ x0).setCell ⟨W.heap.size + 1 + 1 + 1, 1, none⟩ x1).setCell ⟨W.heap.size + 1 + 1 + 1, 2, none⟩ x2).setCell ⟨W.heap.size + 1 + 1 + 1, 3, none⟩ x3).setCell ⟨W.heap.size + 1 + 1 + 1, 4, none⟩ x4)) := fun x0 x1 x2 x3 x4 => R1.put5 (o := aO) List.mem_cons_self x0 x1 x2 x3 x4
  clear R1 hR0 HC
  go_wp2_with fail
  refine (HB2 _).mono ?_; rintro e w2 ⟨rfl, hq⟩; have hq := hq.symm; subst hq
  clear HB2
  go_wp2_with fail
  refine bodyPost_ret (v := anV ((⟨0, 1, 0, []⟩ : An))) (by simp [results, go_sem, d0, d1, d2, d3, d4, anV]) rfl ?_
  rw [HD.out]
  exact ⟨rfl, HP.out _ _ _ _ _⟩

set_option maxRecDepth 8000 in
set_option maxHeartbeats 1600000 in
theorem vdo_4 {own : Nat → Nat} {W : World} {m a nb tp : Nat} {M : Mc} (HV : Vm own W m a nb tp M) (hR : Rest M) (x y : V) (hx : x.Ok) (hy : y.Ok) (A B C : Int) (S T : List UInt8) (hA : I64 A) (hS : S.length ≤ 9223372036854775807) :
    Calls Tryz.prog 25 #[.pointer (some ⟨m, 0, none⟩), belV nb tp, regV x y, opV 4 A B C S T] W fun e w' => e = .returned (anV (vdoP M x y 4 A S).2) ∧ Nx own W m a nb tp (vdoP M x y 4 A S).1 w' := by
  have HD : Hid (vdoP M x y 4 A S = ((execP M A x y).1, toldA (execP M A x y).2)) := by
    show _ = _
    unfold vdoP
    rw [if_neg (by decide), if_pos rfl]
  have R0 := ((((RL.start HV).alloc (bO nb tp) rfl).alloc (rO x y) (n := W.heap.size + 1) (by simp)).alloc (pO 4 A B C S T) (n := W.heap.size + 1 + 1) (by simp)).alloc aO (n := W.heap.size + 1 + 1 + 1) (by simp)
  obtain ⟨own0, hv0, hN0⟩ := R0.vm
  have HC := exec_any hv0 hR A x y hx hy
  obtain ⟨k1, k2, _⟩ := exec_ev hR A hx.N hy.N
  generalize (execP M A x y).1 = M2 at *
  generalize (execP M A x y).2 = ev at *
  have HT := fun w => told_any ev w k1 k2
  have HTA : Hid (toldP ev = anV (toldA ev)) := rfl
  clear HV hv0 R0 k1 k2
  unfold regV
  rw [opV_mk]
  obtain ⟨xT, xN, xS⟩ := x
  obtain ⟨yT, yN, yS⟩ := y
  obtain ⟨eK, eh, eE, ⟨vT, vN, vS⟩, ⟨wT, wN, wS⟩⟩ := ev
  unfold evV at HC HT
  unfold toldA at HD HTA
  simp only [valV_mk] at *
  generalize showV ⟨vT, vN, vS⟩ ++ [44] ++ showV ⟨wT, wN, wS⟩ = ts at *
  go_enter Tryz.func25, Tryz.ntmps25
  go_wp2_with fail
  refine HC.mono ?_; rintro e w1 ⟨rfl, hN⟩
  have R1 := (hN0 _ _ hN).alloc (.cells #[i64 eK, i64 eh, .int .i64 eE, .int .i64 vT, .int .u64 (vN : Int), .string ⟨vS.toArray⟩, .int .i64 wT, .int .u64 (wN : Int), .string ⟨wS.toArray⟩] 85) rfl
  clear hN hN0 HC
  go_wp2_with fail
  refine (HT _).mono ?_; rintro e w2 ⟨rfl, hb⟩
  have R2 := R1.below hb
  rw [HTA.out]
  unfold anV
  obtain ⟨d0, d1, d2, d3, d4, dz⟩ := cells5 (R2.box (b := W.heap.size + 1 + 1 + 1) (o := aO) (List.mem_cons_of_mem _ List.mem_cons_self)).1
  have hbl := (R2.box (b := W.heap.size + 1 + 1 + 1) (o := aO) (List.mem_cons_of_mem _ List.mem_cons_self)).2
  have HP : Hid (∀ x0 x1 x2 x3 x4, Nx own W m a nb tp M2 (((((w2.setCell ⟨W.heap.size + 1 + 1 + 1, 0, none⟩ x0).setCell ⟨W.heap.size + 1 + 1 + 1, 1, none⟩ x1).setCell ⟨W.heap.size + 1 + 1 + 1, 2, none⟩ x2).setCell ⟨W.heap.size + 1 + 1 + 1, 3, none⟩ x3).setCell ⟨W.heap.size + 1 + 1 + 1, 4, none⟩ x4)) := fun x0 x1 x2 x3 x4 => R2.put5 (o := aO) (List.mem_cons_of_mem _ List.mem_cons_self) x0 x1 x2 x3 x4
  clear R1 R2 hb HT HTA
  go_wp2_with fail
  refine bodyPost_ret (v := .agg #[.int .i64 eE, .int .i64 (eK : Int), .int .i64 (eh : Int), .string ⟨ts.toArray⟩, .string ⟨#[]⟩]) (by simp [results, go_sem, d0, d1, d2, d3, d4]) rfl ?_
  rw [HD.out]
  exact ⟨rfl, HP.out _ _ _ _ _⟩

set_option maxRecDepth 8000 in
set_option maxHeartbeats 1600000 in
theorem vdo_0 {own : Nat → Nat} {W : World} {m a nb tp : Nat} {M : Mc} (HV : Vm own W m a nb tp M) (x y : V) (K A B C : Int) (S T : List UInt8) (h3 : K ≠ 3) (h4 : K ≠ 4) (h5 : K ≠ 5) (h6 : K ≠ 6) (h7 : K ≠ 7) (h8 : K ≠ 8) (h9 : K ≠ 9) (h10 : K ≠ 10) (h11 : K ≠ 11) :
    Calls Tryz.prog 25 #[.pointer (some ⟨m, 0, none⟩), belV nb tp, regV x y, opV K A B C S T] W fun e w' => e = .returned (anV (vdoP M x y K A S).2) ∧ Nx own W m a nb tp (vdoP M x y K A S).1 w' := by
  have HD : Hid (vdoP M x y K A S = (M, (⟨0, 0, 0, []⟩ : An))) := by
    show _ = _
    unfold vdoP
    rw [if_neg h3, if_neg h4, if_neg h5, if_neg h6, if_neg h7, if_neg h8, if_neg h9, if_neg h10, if_neg h11]
  have b3 : (K == 3) = false := by simpa using h3
  have b4 : (K == 4) = false := by simpa using h4
  have b5 : (K == 5) = false := by simpa using h5
  have b6 : (K == 6) = false := by simpa using h6
  have b7 : (K == 7) = false := by simpa using h7
  have b8 : (K == 8) = false := by simpa using h8
  have b9 : (K == 9) = false := by simpa using h9
  have b10 : (K == 10) = false := by simpa using h10
  have b11 : (K == 11) = false := by simpa using h11
  have HNX : Hid (∀ w', Below W.heap.size W w' → Nx own W m a nb tp M w') := fun w' hb => Nx.same HV hb
  clear HV h3 h4 h5 h6 h7 h8 h9 h10 h11
  unfold regV
  rw [opV_mk]
  obtain ⟨xT, xN, xS⟩ := x
  obtain ⟨yT, yN, yS⟩ := y
  go_enter Tryz.func25, Tryz.ntmps25
  go_wp2_with fail
  refine bodyPost_ret (v := anV (⟨0, 0, 0, []⟩ : An)) (by simp [results, go_sem, anV]) rfl ?_
  rw [HD.out]
  refine ⟨rfl, HNX.out _ ?_⟩
  exact below_two (below_two (below_two (below_one _ _) (below_one _ _)) (below_one _ _)) (below_one _ _)
theorem vdo_any {own : Nat → Nat} {W : World} {m a nb tp : Nat} {M : Mc} (HV : Vm own W m a nb tp M) (hR : Rest M) (x y : V) (hx : x.Ok) (hy : y.Ok) (K A B C : Int) (S T : List UInt8) (hA : I64 A) (hS : S.length ≤ 9223372036854775807) :
    Calls Tryz.prog 25 #[.pointer (some ⟨m, 0, none⟩), belV nb tp, regV x y, opV K A B C S T] W fun e w' => e = .returned (anV (vdoP M x y K A S).2) ∧ Nx own W m a nb tp (vdoP M x y K A S).1 w' := by
  by_cases h3 : K = 3
  · subst h3; exact vdo_3 HV hR x y hx hy A B C S T hA hS
  by_cases h4 : K = 4
  · subst h4; exact vdo_4 HV hR x y hx hy A B C S T hA hS
  by_cases h5 : K = 5
  · subst h5; exact vdo_5 HV hR x y hx hy A B C S T hA hS
  by_cases h6 : K = 6
  · subst h6; exact vdo_6 HV hR x y hx hy A B C S T hA hS
  by_cases h7 : K = 7
  · subst h7; exact vdo_7 HV hR x y hx hy A B C S T hA hS
  by_cases h8 : K = 8
  · subst h8; exact vdo_8 HV hR x y hx hy A B C S T hA hS
  by_cases h9 : K = 9
  · subst h9; exact vdo_9 HV hR x y hx hy A B C S T hA hS
  by_cases h10 : K = 10
  · subst h10; exact vdo_10 HV hR x y hx hy A B C S T hA hS
  by_cases h11 : K = 11
  · subst h11; exact vdo_11 HV hR x y hx hy A B C S T hA hS
  · exact vdo_0 HV x y K A B C S T h3 h4 h5 h6 h7 h8 h9 h10 h11
end Go.Proofs.Qxb6500293aGreatRR
