/-
  THE PROBES: Probe2 22, Probe 21.
-/
import Derived.Test.Qxb6500293aGreatRRG5
import Derived.Test.Qxb6500293aGreatRRP1
import Derived.Test.Qxb6500293aGreatRRY46
namespace Go.Proofs.Qxb6500293aGreatRR
open Go.RowKit
open Ieee (double)
set_option linter.unusedVariables false
set_option linter.unusedSimpArgs false

section
variable {own : Nat → Nat} {W w w' : World} {m a nb tp : Nat} {B : List (Nat × Obj)} {M : Mc}
theorem RL.setE (h : RL own W m a nb tp B M w) {n : Nat} {y0 y1 y2 y3 y4 y5 y6 y7 y8 : Value} (h1 : (n, .cells #[y0, y1, y2, y3, y4, y5, y6, y7, y8] 85) ∈ B) {B' : List (Nat × Obj)} (hB : ∀ p ∈ B', p ∈ B ∧ p.1 ≠ n) (x0 x1 x2 x3 x4 x5 x6 x7 x8 : Value) : RL own W m a nb tp ((n, .cells #[x0, x1, x2, x3, x4, x5, x6, x7, x8] 85) :: B') M (putE w n x0 x1 x2 x3 x4 x5 x6 x7 x8) := by
  obtain ⟨fs, h⟩ := h.rn
  have m1 : n ∈ B.map Prod.fst := List.mem_map_of_mem (f := Prod.fst) h1
  have hz := ((((((((h.weak.put m1 0 x0).put m1 1 x1).put m1 2 x2).put m1 3 x3).put m1 4 x4).put m1 5 x5).put m1 6 x6).put m1 7 x7).put m1 8 x8
  refine ⟨fs, hz.rn ?_⟩
  intro p hp
  rcases List.mem_cons.1 hp with rfl | hp
  · exact ⟨m1, putE_block (h.box h1).1 x0 x1 x2 x3 x4 x5 x6 x7 x8⟩
  · exact ⟨List.mem_map_of_mem (f := Prod.fst) (hB p hp).1, (putE_rest (hB p hp).2 x0 x1 x2 x3 x4 x5 x6 x7 x8).trans (h.box (b := p.1) (o := p.2) (hB p hp).1).1⟩
abbrev putV (w : World) (n : Nat) (x0 x1 x2 : Value) : World := ((w.setCell ⟨n, 0, none⟩ x0).setCell ⟨n, 1, none⟩ x1).setCell ⟨n, 2, none⟩ x2
theorem putV_block {w : World} {b : Nat} {y0 y1 y2 : Value} {ty : TypeId} (h : w.heap[b]? = some (.cells #[y0, y1, y2] ty)) (x0 x1 x2 : Value) : (putV w b x0 x1 x2).heap[b]? = some (.cells #[x0, x1, x2] ty) := by
  have h0 : (w.setCell ⟨b, 0, none⟩ x0).heap[b]? = some (.cells #[x0, y1, y2] ty) := by
    have := set_block h (k := 0) (by simp) x0
    simpa using this
  have h1 : ((w.setCell ⟨b, 0, none⟩ x0).setCell ⟨b, 1, none⟩ x1).heap[b]? = some (.cells #[x0, x1, y2] ty) := by
    have := set_block h0 (k := 1) (by simp) x1
    simpa using this
  have := set_block h1 (k := 2) (by simp) x2
  simpa using this
theorem RL.setV (h : RL own W m a nb tp B M w) {n : Nat} {y0 y1 y2 : Value} (h1 : (n, .cells #[y0, y1, y2] 33) ∈ B) {B' : List (Nat × Obj)} (hB : ∀ p ∈ B', p ∈ B ∧ p.1 ≠ n) (x0 x1 x2 : Value) : RL own W m a nb tp ((n, .cells #[x0, x1, x2] 33) :: B') M (putV w n x0 x1 x2) := by
  obtain ⟨fs, h⟩ := h.rn
  have m1 : n ∈ B.map Prod.fst := List.mem_map_of_mem (f := Prod.fst) h1
  have hz := ((h.weak.put m1 0 x0).put m1 1 x1).put m1 2 x2
  refine ⟨fs, hz.rn ?_⟩
  intro p hp
  rcases List.mem_cons.1 hp with rfl | hp
  · exact ⟨m1, putV_block (h.box h1).1 x0 x1 x2⟩
  · refine ⟨List.mem_map_of_mem (f := Prod.fst) (hB p hp).1, ?_⟩
    have hn := (hB p hp).2
    rw [Below.heap_setCell _ _ _ _ hn, Below.heap_setCell _ _ _ _ hn, Below.heap_setCell _ _ _ _ hn]
    exact (h.box (b := p.1) (o := p.2) (hB p hp).1).1
theorem RL.load (h : RL own W m a nb tp B M w) (bs : List UInt8) (fuel : Int) (hb : bs.length ≤ 9223372036854775807) (hf : I64 fuel) :
    Calls Tryz.prog 36 #[.pointer (some ⟨m, 0, none⟩), .string ⟨bs.toArray⟩, .int .i64 fuel] w fun e w' => e = .returned (.int .i64 (loadP bs fuel).2) ∧ RL own W m a nb tp B (loadP bs fuel).1 w' := by
  obtain ⟨own0, hv, hN⟩ := h.vm
  exact (load_any hv bs fuel hb hf).mono fun e w' hq => ⟨hq.1, hN _ _ hq.2⟩
theorem RL.exec (h : RL own W m a nb tp B M w) (hR : Rest M) (th : Int) (x y : V) (hx : x.Ok) (hy : y.Ok) :
    Calls Tryz.prog 37 #[.pointer (some ⟨m, 0, none⟩), .int .i64 th, valV x, valV y] w fun e w' => e = .returned (evV (execP M th x y).2) ∧ RL own W m a nb tp B (execP M th x y).1 w' := by
  obtain ⟨own0, hv, hN⟩ := h.vm
  exact (exec_any hv hR th x y hx hy).mono fun e w' hq => ⟨hq.1, hN _ _ hq.2⟩
theorem RL.outS (h : RL own W m a nb tp B M w) : Calls Tryz.prog 24 #[.pointer (some ⟨m, 0, none⟩)] w fun e w' => e = .returned (.string ⟨M.out.toArray⟩) ∧ w' = w := by
  obtain ⟨own0, hv, hN⟩ := h.vm
  exact Out_any hv
theorem RL.fuel (h : RL own W m a nb tp B M w) : Calls Tryz.prog 23 #[.pointer (some ⟨m, 0, none⟩)] w fun e w' => e = .returned (i64 M.fuel) ∧ w' = w := by
  obtain ⟨own0, hv, hN⟩ := h.vm
  exact fuel_any hv
theorem RL.tabs (h : RL own W m a nb tp B M w) : Calls Tryz.prog 8 #[belV nb tp] w fun e w' => e = .returned (.string ⟨(showT M.tb).toArray⟩) ∧ Below w.heap.size w w' := by
  obtain ⟨own0, hv, hN⟩ := h.vm
  exact tabs_any hv
end
theorem nilOk2 : nilV.Ok := ⟨by decide, by decide, by decide, by decide⟩
theorem c2s : decide ((showT (loadP cat2I 6).1.tb).length ≤ 1000) = true := by kernel_rfl

set_option maxRecDepth 8000 in
set_option maxHeartbeats 1600000 in
theorem probe2_any {own : Nat → Nat} {W : World} {m a nb tp : Nat} {M : Mc} (HV : Vm own W m a nb tp M) : Calls Tryz.prog 22 #[sideV m nb tp] W fun e w' => e = .returned (.bool true) ∧ Nx own W m a nb tp spinM w' := by
  have R0 := (RL.start HV).alloc (sO m nb tp) rfl
  have HC := R0.load cat2I 9 (by decide) ⟨by decide, by decide⟩
  rw [c2a] at HC
  clear HV R0
  unfold sideV
  go_enter Tryz.func22, Tryz.ntmps22
  go_wp2_with fail
  refine HC.mono ?_; rintro e w1 ⟨rfl, R1⟩
  have HX : Hid ((execP (loadP cat2I 9).1 0 nilV nilV).1.out = [102, 97, 108, 115, 101, 10, 118, 10] ∧ (execP (loadP cat2I 9).1 0 nilV nilV).1.fuel = 2) := ⟨c2c, c2d⟩
  have HC2 := R1.exec (load_keeps cat2I 9 (by decide)) 0 nilV nilV nilOk2 nilOk2
  rw [c2b] at HC2
  have HC2 : Calls Tryz.prog 37 #[.pointer (some ⟨m, 0, none⟩), .int .i64 0, .agg #[.int .i64 0, .int .u64 0, .string ⟨#[]⟩], .agg #[.int .i64 0, .int .u64 0, .string ⟨#[]⟩]] w1 fun e w' => e = .returned (.agg #[.int .i64 1, .int .i64 0, .int .i64 0, .int .i64 3, .int .u64 0, .string ⟨#[49, 52, 44, 49, 49, 44, 49]⟩, .int .i64 3, .int .u64 0, .string ⟨#[112, 113, 114]⟩]) ∧ RL own W m a nb tp [(W.heap.size, sO m nb tp)] (execP (loadP cat2I 9).1 0 nilV nilV).1 w' := HC2
  generalize (execP (loadP cat2I 9).1 0 nilV nilV).1 = M2 at *
  generalize hb0 : W.heap.size = b0 at *
  have HB0 : Hid (W.heap.size = b0) := hb0
  clear hb0
  obtain ⟨a0, a1, a2, az⟩ := cells3 (R1.box (b := b0) (o := sO m nb tp) (by simp)).1
  have l0 := (R1.box (b := b0) (o := sO m nb tp) (by simp)).2
  clear R1 HC
  go_wp2_with fail
  refine HC2.mono ?_; rintro e w2 ⟨rfl, R2⟩
  have hne : b0 < w2.heap.size := (R2.box (b := b0) (o := sO m nb tp) (by simp)).2
  clear HC2
  clear a0 a1 a2 az l0
  go_upto_region 3 with fail
  have R3 : RL own W m a nb tp [(w2.heap.size, .cells #[.int .i64 1, .int .i64 0, .int .i64 0, .int .i64 3, .int .u64 0, .string ⟨#[49, 52, 44, 49, 49, 44, 49]⟩, .int .i64 3, .int .u64 0, .string ⟨#[112, 113, 114]⟩] 85), (b0, sO m nb tp)] M2 (w2.alloc (.cells #[.int .i64 1, .int .i64 0, .int .i64 0, .int .i64 3, .int .u64 0, .string ⟨#[49, 52, 44, 49, 49, 44, 49]⟩, .int .i64 3, .int .u64 0, .string ⟨#[112, 113, 114]⟩] 85)) := R2.alloc _ rfl
  generalize w2.alloc (.cells #[.int .i64 1, .int .i64 0, .int .i64 0, .int .i64 3, .int .u64 0, .string ⟨#[49, 52, 44, 49, 49, 44, 49]⟩, .int .i64 3, .int .u64 0, .string ⟨#[112, 113, 114]⟩] 85) = w3 at *
  generalize w2.heap.size = b1 at *
  have HNE : Hid (∀ p ∈ [((b0, sO m nb tp) : Nat × Obj)], p.1 ≠ b1) := fun p hp => by rw [List.mem_singleton] at hp; subst hp; show b0 ≠ b1; omega
  clear R2 hne
  obtain ⟨a0, a1, a2, az⟩ := cells3 (R3.box (b := b0) (o := sO m nb tp) (by simp)).1
  have l0 := (R3.box (b := b0) (o := sO m nb tp) (by simp)).2
  obtain ⟨e0, e1, e2, e3, e4, e5, e6, e7, e8, ez⟩ := cells9 (R3.box (b := b1) (o := .cells #[.int .i64 1, .int .i64 0, .int .i64 0, .int .i64 3, .int .u64 0, .string ⟨#[49, 52, 44, 49, 49, 44, 49]⟩, .int .i64 3, .int .u64 0, .string ⟨#[112, 113, 114]⟩] 85) (by simp)).1
  have l1 := (R3.box (b := b1) (o := .cells #[.int .i64 1, .int .i64 0, .int .i64 0, .int .i64 3, .int .u64 0, .string ⟨#[49, 52, 44, 49, 49, 44, 49]⟩, .int .i64 3, .int .u64 0, .string ⟨#[112, 113, 114]⟩] 85) (by simp)).2
  have HO := R3.outS
  rw [HX.out.1] at HO
  have HF := R3.fuel
  rw [HX.out.2] at HF
  have HC3 := R3.load cat2I 6 (by decide) ⟨by decide, by decide⟩
  clear R3 HX
  go_wp2_with fail
  refine HO.mono ?_; rintro e w4 ⟨rfl, hq⟩; have hq := hq.symm; subst hq
  clear HO
  go_wp2_with fail
  refine HF.mono ?_; rintro e w4 ⟨rfl, hq⟩; have hq := hq.symm; subst hq
  clear HF
  go_wp2_with fail
  refine HC3.mono ?_; rintro e w5 ⟨rfl, R5⟩
  clear HC3
  clear a0 a1 a2 az l0
  clear e0 e1 e2 e3 e4 e5 e6 e7 e8 ez l1
  have HK5 : Hid (Rest (loadP cat2I 6).1) := load_keeps cat2I 6 (by decide)
  have HX : Hid ((execP (loadP cat2I 6).1 0 nilV nilV).1.out = [102, 97, 108, 115, 101, 10, 118, 10] ∧ (execP (loadP cat2I 6).1 0 nilV nilV).1.fuel = 0 ∧ showT (execP (loadP cat2I 6).1 0 nilV nilV).1.tb = showT (loadP cat2I 6).1.tb ++ [91, 115, 49, 58, 107, 61, 115, 49, 58, 118, 59, 93]) := ⟨c2f, c2g, c2t⟩
  have HT := R5.tabs
  have hls : (showT (loadP cat2I 6).1.tb).length ≤ 1000 := of_decide_eq_true c2s
  generalize showT (loadP cat2I 6).1.tb = s0 at *
  obtain ⟨a0, a1, a2, az⟩ := cells3 (R5.box (b := b0) (o := sO m nb tp) (by simp)).1
  have l0 := (R5.box (b := b0) (o := sO m nb tp) (by simp)).2
  go_wp2_with fail
  refine HT.mono ?_; rintro e w6 ⟨rfl, hb6⟩
  have R6 := R5.below hb6
  clear R5 HT hb6
  clear a0 a1 a2 az l0
  have HC4 := R6.exec HK5.out 0 nilV nilV nilOk2 nilOk2
  rw [c2e] at HC4
  have HC4 : Calls Tryz.prog 37 #[.pointer (some ⟨m, 0, none⟩), .int .i64 0, .agg #[.int .i64 0, .int .u64 0, .string ⟨#[]⟩], .agg #[.int .i64 0, .int .u64 0, .string ⟨#[]⟩]] w6 fun e w' => e = .returned (.agg #[.int .i64 5, .int .i64 0, .int .i64 9, .int .i64 0, .int .u64 0, .string ⟨#[]⟩, .int .i64 0, .int .u64 0, .string ⟨#[]⟩]) ∧ RL own W m a nb tp [(b1, .cells #[.int .i64 1, .int .i64 0, .int .i64 0, .int .i64 3, .int .u64 0, .string ⟨#[49, 52, 44, 49, 49, 44, 49]⟩, .int .i64 3, .int .u64 0, .string ⟨#[112, 113, 114]⟩] 85), (b0, sO m nb tp)] (execP (loadP cat2I 6).1 0 nilV nilV).1 w' := HC4
  generalize (execP (loadP cat2I 6).1 0 nilV nilV).1 = M4 at *
  obtain ⟨a0, a1, a2, az⟩ := cells3 (R6.box (b := b0) (o := sO m nb tp) (by simp)).1
  have l0 := (R6.box (b := b0) (o := sO m nb tp) (by simp)).2
  obtain ⟨e0, e1, e2, e3, e4, e5, e6, e7, e8, ez⟩ := cells9 (R6.box (b := b1) (o := .cells #[.int .i64 1, .int .i64 0, .int .i64 0, .int .i64 3, .int .u64 0, .string ⟨#[49, 52, 44, 49, 49, 44, 49]⟩, .int .i64 3, .int .u64 0, .string ⟨#[112, 113, 114]⟩] 85) (by simp)).1
  have l1 := (R6.box (b := b1) (o := .cells #[.int .i64 1, .int .i64 0, .int .i64 0, .int .i64 3, .int .u64 0, .string ⟨#[49, 52, 44, 49, 49, 44, 49]⟩, .int .i64 3, .int .u64 0, .string ⟨#[112, 113, 114]⟩] 85) (by simp)).2
  clear R6
  go_wp2_with fail
  refine HC4.mono ?_; rintro e w7 ⟨rfl, R7⟩
  clear HC4
  clear a0 a1 a2 az l0
  clear e0 e1 e2 e3 e4 e5 e6 e7 e8 ez l1
  obtain ⟨a0, a1, a2, az⟩ := cells3 (R7.box (b := b0) (o := sO m nb tp) (by simp)).1
  have l0 := (R7.box (b := b0) (o := sO m nb tp) (by simp)).2
  obtain ⟨e0, e1, e2, e3, e4, e5, e6, e7, e8, ez⟩ := cells9 (R7.box (b := b1) (o := .cells #[.int .i64 1, .int .i64 0, .int .i64 0, .int .i64 3, .int .u64 0, .string ⟨#[49, 52, 44, 49, 49, 44, 49]⟩, .int .i64 3, .int .u64 0, .string ⟨#[112, 113, 114]⟩] 85) (by simp)).1
  have l1 := (R7.box (b := b1) (o := .cells #[.int .i64 1, .int .i64 0, .int .i64 0, .int .i64 3, .int .u64 0, .string ⟨#[49, 52, 44, 49, 49, 44, 49]⟩, .int .i64 3, .int .u64 0, .string ⟨#[112, 113, 114]⟩] 85) (by simp)).2
  have R8 : RL own W m a nb tp [(b1, .cells #[.int .i64 5, .int .i64 0, .int .i64 9, .int .i64 0, .int .u64 0, .string ⟨#[]⟩, .int .i64 0, .int .u64 0, .string ⟨#[]⟩] 85), (b0, sO m nb tp)] M4 (((((((((w7.setCell ⟨b1, 0, none⟩ (.int .i64 5)).setCell ⟨b1, 1, none⟩ (.int .i64 0)).setCell ⟨b1, 2, none⟩ (.int .i64 9)).setCell ⟨b1, 3, none⟩ (.int .i64 0)).setCell ⟨b1, 4, none⟩ (.int .u64 0)).setCell ⟨b1, 5, none⟩ (.string ⟨#[]⟩)).setCell ⟨b1, 6, none⟩ (.int .i64 0)).setCell ⟨b1, 7, none⟩ (.int .u64 0)).setCell ⟨b1, 8, none⟩ (.string ⟨#[]⟩)) := R7.setE (n := b1) (by first | exact List.mem_cons_self | exact List.mem_cons_of_mem _ List.mem_cons_self) (B' := [(b0, sO m nb tp)]) (fun p hp => ⟨List.mem_cons_of_mem _ hp, HNE.out p hp⟩) (.int .i64 5) (.int .i64 0) (.int .i64 9) (.int .i64 0) (.int .u64 0) (.string ⟨#[]⟩) (.int .i64 0) (.int .u64 0) (.string ⟨#[]⟩)
  clear R7
  go_upto_region 12 with fail
  clear a0 a1 a2 az l0
  clear e0 e1 e2 e3 e4 e5 e6 e7 e8 ez l1
  generalize (((((((((w7.setCell ⟨b1, 0, none⟩ (.int .i64 5)).setCell ⟨b1, 1, none⟩ (.int .i64 0)).setCell ⟨b1, 2, none⟩ (.int .i64 9)).setCell ⟨b1, 3, none⟩ (.int .i64 0)).setCell ⟨b1, 4, none⟩ (.int .u64 0)).setCell ⟨b1, 5, none⟩ (.string ⟨#[]⟩)).setCell ⟨b1, 6, none⟩ (.int .i64 0)).setCell ⟨b1, 7, none⟩ (.int .u64 0)).setCell ⟨b1, 8, none⟩ (.string ⟨#[]⟩)) = w8 at *
  obtain ⟨a0, a1, a2, az⟩ := cells3 (R8.box (b := b0) (o := sO m nb tp) (by simp)).1
  have l0 := (R8.box (b := b0) (o := sO m nb tp) (by simp)).2
  obtain ⟨e0, e1, e2, e3, e4, e5, e6, e7, e8, ez⟩ := cells9 (R8.box (b := b1) (o := .cells #[.int .i64 5, .int .i64 0, .int .i64 9, .int .i64 0, .int .u64 0, .string ⟨#[]⟩, .int .i64 0, .int .u64 0, .string ⟨#[]⟩] 85) (by simp)).1
  have l1 := (R8.box (b := b1) (o := .cells #[.int .i64 5, .int .i64 0, .int .i64 9, .int .i64 0, .int .u64 0, .string ⟨#[]⟩, .int .i64 0, .int .u64 0, .string ⟨#[]⟩] 85) (by simp)).2
  have HO := R8.outS
  rw [HX.out.1] at HO
  have HF := R8.fuel
  rw [HX.out.2.1] at HF
  have HT := R8.tabs
  rw [HX.out.2.2] at HT
  go_wp2_with fail
  refine HO.mono ?_; rintro e w4 ⟨rfl, hq⟩; have hq := hq.symm; subst hq
  clear HO
  go_wp2_with fail
  refine HF.mono ?_; rintro e w4 ⟨rfl, hq⟩; have hq := hq.symm; subst hq
  clear HF
  go_wp2_with fail
  refine HT.mono ?_; rintro e w9 ⟨rfl, hb9⟩
  have R9 := R8.below hb9
  clear R8 HT hb9 HX
  clear a0 a1 a2 az l0
  clear e0 e1 e2 e3 e4 e5 e6 e7 e8 ez l1
  obtain ⟨a0, a1, a2, az⟩ := cells3 (R9.box (b := b0) (o := sO m nb tp) (by simp)).1
  have l0 := (R9.box (b := b0) (o := sO m nb tp) (by simp)).2
  obtain ⟨e0, e1, e2, e3, e4, e5, e6, e7, e8, ez⟩ := cells9 (R9.box (b := b1) (o := .cells #[.int .i64 5, .int .i64 0, .int .i64 9, .int .i64 0, .int .u64 0, .string ⟨#[]⟩, .int .i64 0, .int .u64 0, .string ⟨#[]⟩] 85) (by simp)).1
  have l1 := (R9.box (b := b1) (o := .cells #[.int .i64 5, .int .i64 0, .int .i64 9, .int .i64 0, .int .u64 0, .string ⟨#[]⟩, .int .i64 0, .int .u64 0, .string ⟨#[]⟩] 85) (by simp)).2
  have hsa : (⟨s0.toArray⟩ : ByteArray) ++ ⟨#[91, 115, 49, 58, 107, 61, 115, 49, 58, 118, 59, 93]⟩ = ⟨(s0 ++ [91, 115, 49, 58, 107, 61, 115, 49, 58, 118, 59, 93]).toArray⟩ := str_append s0 _
  have HC5 := R9.load spinI 3 (by decide) ⟨by decide, by decide⟩
  clear R9
  go_wp2_with fail
  refine HC5.mono ?_; rintro e w10 ⟨rfl, R10⟩
  clear HC5
  clear a0 a1 a2 az l0
  clear e0 e1 e2 e3 e4 e5 e6 e7 e8 ez l1
  have HC6 := R10.exec (load_keeps spinI 3 (by decide)) 0 nilV nilV nilOk2 nilOk2
  rw [spa] at HC6
  have HC6 : Calls Tryz.prog 37 #[.pointer (some ⟨m, 0, none⟩), .int .i64 0, .agg #[.int .i64 0, .int .u64 0, .string ⟨#[]⟩], .agg #[.int .i64 0, .int .u64 0, .string ⟨#[]⟩]] w10 fun e w' => e = .returned (.agg #[.int .i64 5, .int .i64 0, .int .i64 9, .int .i64 0, .int .u64 0, .string ⟨#[]⟩, .int .i64 0, .int .u64 0, .string ⟨#[]⟩]) ∧ RL own W m a nb tp [(b1, .cells #[.int .i64 5, .int .i64 0, .int .i64 9, .int .i64 0, .int .u64 0, .string ⟨#[]⟩, .int .i64 0, .int .u64 0, .string ⟨#[]⟩] 85), (b0, sO m nb tp)] spinM w' := HC6
  have HFU : Hid (spinM.fuel = 0) := spb
  generalize hM6 : spinM = M6 at *
  have HM6 : Hid (spinM = M6) := hM6
  clear hM6
  obtain ⟨a0, a1, a2, az⟩ := cells3 (R10.box (b := b0) (o := sO m nb tp) (by simp)).1
  have l0 := (R10.box (b := b0) (o := sO m nb tp) (by simp)).2
  obtain ⟨e0, e1, e2, e3, e4, e5, e6, e7, e8, ez⟩ := cells9 (R10.box (b := b1) (o := .cells #[.int .i64 5, .int .i64 0, .int .i64 9, .int .i64 0, .int .u64 0, .string ⟨#[]⟩, .int .i64 0, .int .u64 0, .string ⟨#[]⟩] 85) (by simp)).1
  have l1 := (R10.box (b := b1) (o := .cells #[.int .i64 5, .int .i64 0, .int .i64 9, .int .i64 0, .int .u64 0, .string ⟨#[]⟩, .int .i64 0, .int .u64 0, .string ⟨#[]⟩] 85) (by simp)).2
  clear R10
  go_wp2_with fail
  refine HC6.mono ?_; rintro e w11 ⟨rfl, R11⟩
  clear HC6
  clear a0 a1 a2 az l0
  clear e0 e1 e2 e3 e4 e5 e6 e7 e8 ez l1
  obtain ⟨a0, a1, a2, az⟩ := cells3 (R11.box (b := b0) (o := sO m nb tp) (by simp)).1
  have l0 := (R11.box (b := b0) (o := sO m nb tp) (by simp)).2
  obtain ⟨e0, e1, e2, e3, e4, e5, e6, e7, e8, ez⟩ := cells9 (R11.box (b := b1) (o := .cells #[.int .i64 5, .int .i64 0, .int .i64 9, .int .i64 0, .int .u64 0, .string ⟨#[]⟩, .int .i64 0, .int .u64 0, .string ⟨#[]⟩] 85) (by simp)).1
  have l1 := (R11.box (b := b1) (o := .cells #[.int .i64 5, .int .i64 0, .int .i64 9, .int .i64 0, .int .u64 0, .string ⟨#[]⟩, .int .i64 0, .int .u64 0, .string ⟨#[]⟩] 85) (by simp)).2
  have R12 : RL own W m a nb tp [(b1, .cells #[.int .i64 5, .int .i64 0, .int .i64 9, .int .i64 0, .int .u64 0, .string ⟨#[]⟩, .int .i64 0, .int .u64 0, .string ⟨#[]⟩] 85), (b0, sO m nb tp)] M6 (((((((((w11.setCell ⟨b1, 0, none⟩ (.int .i64 5)).setCell ⟨b1, 1, none⟩ (.int .i64 0)).setCell ⟨b1, 2, none⟩ (.int .i64 9)).setCell ⟨b1, 3, none⟩ (.int .i64 0)).setCell ⟨b1, 4, none⟩ (.int .u64 0)).setCell ⟨b1, 5, none⟩ (.string ⟨#[]⟩)).setCell ⟨b1, 6, none⟩ (.int .i64 0)).setCell ⟨b1, 7, none⟩ (.int .u64 0)).setCell ⟨b1, 8, none⟩ (.string ⟨#[]⟩)) := R11.setE (n := b1) (by first | exact List.mem_cons_self | exact List.mem_cons_of_mem _ List.mem_cons_self) (B' := [(b0, sO m nb tp)]) (fun p hp => ⟨List.mem_cons_of_mem _ hp, HNE.out p hp⟩) (.int .i64 5) (.int .i64 0) (.int .i64 9) (.int .i64 0) (.int .u64 0) (.string ⟨#[]⟩) (.int .i64 0) (.int .u64 0) (.string ⟨#[]⟩)
  clear R11
  go_upto_region 19 with fail
  clear a0 a1 a2 az l0
  clear e0 e1 e2 e3 e4 e5 e6 e7 e8 ez l1
  generalize (((((((((w11.setCell ⟨b1, 0, none⟩ (.int .i64 5)).setCell ⟨b1, 1, none⟩ (.int .i64 0)).setCell ⟨b1, 2, none⟩ (.int .i64 9)).setCell ⟨b1, 3, none⟩ (.int .i64 0)).setCell ⟨b1, 4, none⟩ (.int .u64 0)).setCell ⟨b1, 5, none⟩ (.string ⟨#[]⟩)).setCell ⟨b1, 6, none⟩ (.int .i64 0)).setCell ⟨b1, 7, none⟩ (.int .u64 0)).setCell ⟨b1, 8, none⟩ (.string ⟨#[]⟩)) = w12 at *
  obtain ⟨a0, a1, a2, az⟩ := cells3 (R12.box (b := b0) (o := sO m nb tp) (by simp)).1
  have l0 := (R12.box (b := b0) (o := sO m nb tp) (by simp)).2
  obtain ⟨e0, e1, e2, e3, e4, e5, e6, e7, e8, ez⟩ := cells9 (R12.box (b := b1) (o := .cells #[.int .i64 5, .int .i64 0, .int .i64 9, .int .i64 0, .int .u64 0, .string ⟨#[]⟩, .int .i64 0, .int .u64 0, .string ⟨#[]⟩] 85) (by simp)).1
  have l1 := (R12.box (b := b1) (o := .cells #[.int .i64 5, .int .i64 0, .int .i64 9, .int .i64 0, .int .u64 0, .string ⟨#[]⟩, .int .i64 0, .int .u64 0, .string ⟨#[]⟩] 85) (by simp)).2
  have HF := R12.fuel
  rw [HFU.out] at HF
  have HNX : Hid (Nx own W m a nb tp M6 w12) := R12.nx
  clear R12
  go_wp2_with fail
  refine HF.mono ?_; rintro e w4 ⟨rfl, hq⟩; have hq := hq.symm; subst hq
  clear HF
  go_wp2_with fail
  go_ret
  exact ⟨by simp, by rw [HM6.out]; exact HNX.out⟩
theorem cM2_rest : Rest cM2 := (exec_ev (load_keeps catI 9 (by decide)) 0 (a := nilV) (b := nilV) (by decide) (by decide)).2.2

set_option maxRecDepth 8000 in
set_option maxHeartbeats 1600000 in
theorem probe_b00 {own : Nat → Nat} {W : World} {m a nb tp : Nat} {M : Mc} (HV : Vm own W m a nb tp M) (x y : V) (hx : x.Ok) (hy : y.Ok) (hf : fitP x = false) (hg : fitP y = false) : Calls Tryz.prog 21 #[.pointer (some ⟨m, 0, none⟩), regV x y] W fun e w' => e = .returned (.bool true) ∧ ∃ M', Nx own W m a nb tp M' w' := by
  have P2 := play2_bad x y (by left; exact hf)
  have HTX := fun w => truthy_any x w
  have HTY := fun w => truthy_any y w
  have HFX := fun w => fit_any x w hx
  have HFY := fun w => fit_any y w hy
  rw [hf] at HFX
  rw [hg] at HFY
  obtain ⟨xT, xN, xS⟩ := x
  obtain ⟨yT, yN, yS⟩ := y
  have HTX : Hid (∀ w, Calls Tryz.prog 39 #[.agg #[.int .i64 xT, .int .u64 (xN : Int), .string ⟨xS.toArray⟩]] w fun e w' => e = .returned (.bool (truthy ⟨xT, xN, xS⟩)) ∧ Below w.heap.size w w') := HTX
  have HTY : Hid (∀ w, Calls Tryz.prog 39 #[.agg #[.int .i64 yT, .int .u64 (yN : Int), .string ⟨yS.toArray⟩]] w fun e w' => e = .returned (.bool (truthy ⟨yT, yN, yS⟩)) ∧ Below w.heap.size w w') := HTY
  have HFX : Hid (∀ w, Calls Tryz.prog 38 #[.agg #[.int .i64 xT, .int .u64 (xN : Int), .string ⟨xS.toArray⟩]] w fun e w' => e = .returned (.bool false) ∧ Below w.heap.size w w') := HFX
  have HFY : Hid (∀ w, Calls Tryz.prog 38 #[.agg #[.int .i64 yT, .int .u64 (yN : Int), .string ⟨yS.toArray⟩]] w fun e w' => e = .returned (.bool false) ∧ Below w.heap.size w w') := HFY
  have HOK : Hid ((⟨xT, xN, xS⟩ : V).Ok ∧ (⟨yT, yN, yS⟩ : V).Ok) := ⟨hx, hy⟩
  have HP : Hid (execP cM2 1 ⟨xT, xN, xS⟩ ⟨yT, yN, yS⟩ = (cM2, badEv)) := P2
  clear P2 hf hg hx hy
  have R0 := (RL.start HV).alloc (.cells #[.int .i64 xT, .int .u64 (xN : Int), .string ⟨xS.toArray⟩, .int .i64 yT, .int .u64 (yN : Int), .string ⟨yS.toArray⟩] 35) rfl
  have HC := R0.load catI 9 (by decide) ⟨by decide, by decide⟩
  rw [ca] at HC
  clear HV R0
  show Calls Tryz.prog 21 #[.pointer (some ⟨m, 0, none⟩), .agg #[.int .i64 xT, .int .u64 (xN : Int), .string ⟨xS.toArray⟩, .int .i64 yT, .int .u64 (yN : Int), .string ⟨yS.toArray⟩]] W _
  go_enter Tryz.func21, Tryz.ntmps21
  go_wp2_with fail
  refine HC.mono ?_; rintro e w1 ⟨rfl, R1⟩
  have HC2 := R1.exec (load_keeps catI 9 (by decide)) 0 nilV nilV nilOk2 nilOk2
  rw [cb] at HC2
  have HC2 : Calls Tryz.prog 37 #[.pointer (some ⟨m, 0, none⟩), .int .i64 0, .agg #[.int .i64 0, .int .u64 0, .string ⟨#[]⟩], .agg #[.int .i64 0, .int .u64 0, .string ⟨#[]⟩]] w1 fun e w' => e = .returned (.agg #[.int .i64 4, .int .i64 1, .int .i64 0, .int .i64 0, .int .u64 0, .string ⟨#[]⟩, .int .i64 0, .int .u64 0, .string ⟨#[]⟩]) ∧ RL own W m a nb tp [(W.heap.size, .cells #[.int .i64 xT, .int .u64 (xN : Int), .string ⟨xS.toArray⟩, .int .i64 yT, .int .u64 (yN : Int), .string ⟨yS.toArray⟩] 35)] cM2 w' := HC2
  have HK2 : Hid (Rest cM2) := cM2_rest
  generalize hM2 : cM2 = M2 at *
  clear hM2
  generalize hb0 : W.heap.size = b0 at *
  clear hb0
  obtain ⟨r0, r1, r2, r3, r4, r5, rz⟩ := cells6 (R1.box (b := b0) (o := .cells #[.int .i64 xT, .int .u64 (xN : Int), .string ⟨xS.toArray⟩, .int .i64 yT, .int .u64 (yN : Int), .string ⟨yS.toArray⟩] 35) (by simp)).1
  have lr := (R1.box (b := b0) (o := .cells #[.int .i64 xT, .int .u64 (xN : Int), .string ⟨xS.toArray⟩, .int .i64 yT, .int .u64 (yN : Int), .string ⟨yS.toArray⟩] 35) (by simp)).2
  clear R1 HC
  go_wp2_with fail
  refine HC2.mono ?_; rintro e w2 ⟨rfl, R2⟩
  have hne : b0 < w2.heap.size := (R2.box (b := b0) (o := .cells #[.int .i64 xT, .int .u64 (xN : Int), .string ⟨xS.toArray⟩, .int .i64 yT, .int .u64 (yN : Int), .string ⟨yS.toArray⟩] 35) (by simp)).2
  clear HC2
  clear r0 r1 r2 r3 r4 r5 rz lr
  go_upto_region 3 with fail
  have R3 : RL own W m a nb tp [(w2.heap.size, .cells #[.int .i64 4, .int .i64 1, .int .i64 0, .int .i64 0, .int .u64 0, .string ⟨#[]⟩, .int .i64 0, .int .u64 0, .string ⟨#[]⟩] 85), (b0, .cells #[.int .i64 xT, .int .u64 (xN : Int), .string ⟨xS.toArray⟩, .int .i64 yT, .int .u64 (yN : Int), .string ⟨yS.toArray⟩] 35)] M2 (w2.alloc (.cells #[.int .i64 4, .int .i64 1, .int .i64 0, .int .i64 0, .int .u64 0, .string ⟨#[]⟩, .int .i64 0, .int .u64 0, .string ⟨#[]⟩] 85)) := R2.alloc _ rfl
  generalize w2.alloc (.cells #[.int .i64 4, .int .i64 1, .int .i64 0, .int .i64 0, .int .u64 0, .string ⟨#[]⟩, .int .i64 0, .int .u64 0, .string ⟨#[]⟩] 85) = w3 at *
  generalize w2.heap.size = b1 at *
  have HD : Hid (b0 < b1) := hne
  clear R2 hne
  obtain ⟨e0, e1, e2, e3, e4, e5, e6, e7, e8, ez⟩ := cells9 (R3.box (b := b1) (o := .cells #[.int .i64 4, .int .i64 1, .int .i64 0, .int .i64 0, .int .u64 0, .string ⟨#[]⟩, .int .i64 0, .int .u64 0, .string ⟨#[]⟩] 85) (by simp)).1
  have le := (R3.box (b := b1) (o := .cells #[.int .i64 4, .int .i64 1, .int .i64 0, .int .i64 0, .int .u64 0, .string ⟨#[]⟩, .int .i64 0, .int .u64 0, .string ⟨#[]⟩] 85) (by simp)).2
  obtain ⟨r0, r1, r2, r3, r4, r5, rz⟩ := cells6 (R3.box (b := b0) (o := .cells #[.int .i64 xT, .int .u64 (xN : Int), .string ⟨xS.toArray⟩, .int .i64 yT, .int .u64 (yN : Int), .string ⟨yS.toArray⟩] 35) (by simp)).1
  have lr := (R3.box (b := b0) (o := .cells #[.int .i64 xT, .int .u64 (xN : Int), .string ⟨xS.toArray⟩, .int .i64 yT, .int .u64 (yN : Int), .string ⟨yS.toArray⟩] 35) (by simp)).2
  have HC3 := R3.exec HK2.out 1 ⟨xT, xN, xS⟩ ⟨yT, yN, yS⟩ HOK.out.1 HOK.out.2
  rw [HP.out] at HC3
  have HC3 : Calls Tryz.prog 37 #[.pointer (some ⟨m, 0, none⟩), .int .i64 1, .agg #[.int .i64 xT, .int .u64 (xN : Int), .string ⟨xS.toArray⟩], .agg #[.int .i64 yT, .int .u64 (yN : Int), .string ⟨yS.toArray⟩]] w3 fun e w' => e = .returned (.agg #[.int .i64 6, .int .i64 0, .int .i64 0, .int .i64 0, .int .u64 0, .string ⟨#[]⟩, .int .i64 0, .int .u64 0, .string ⟨#[]⟩]) ∧ RL own W m a nb tp [(b1, .cells #[.int .i64 4, .int .i64 1, .int .i64 0, .int .i64 0, .int .u64 0, .string ⟨#[]⟩, .int .i64 0, .int .u64 0, .string ⟨#[]⟩] 85), (b0, .cells #[.int .i64 xT, .int .u64 (xN : Int), .string ⟨xS.toArray⟩, .int .i64 yT, .int .u64 (yN : Int), .string ⟨yS.toArray⟩] 35)] M2 w' := HC3
  clear R3
  go_wp2_with fail
  refine HC3.mono ?_; rintro e w4 ⟨rfl, R4⟩
  clear HC3
  clear e0 e1 e2 e3 e4 e5 e6 e7 e8 ez le r0 r1 r2 r3 r4 r5 rz lr
  obtain ⟨e0, e1, e2, e3, e4, e5, e6, e7, e8, ez⟩ := cells9 (R4.box (b := b1) (o := .cells #[.int .i64 4, .int .i64 1, .int .i64 0, .int .i64 0, .int .u64 0, .string ⟨#[]⟩, .int .i64 0, .int .u64 0, .string ⟨#[]⟩] 85) (by simp)).1
  have le := (R4.box (b := b1) (o := .cells #[.int .i64 4, .int .i64 1, .int .i64 0, .int .i64 0, .int .u64 0, .string ⟨#[]⟩, .int .i64 0, .int .u64 0, .string ⟨#[]⟩] 85) (by simp)).2
  obtain ⟨r0, r1, r2, r3, r4, r5, rz⟩ := cells6 (R4.box (b := b0) (o := .cells #[.int .i64 xT, .int .u64 (xN : Int), .string ⟨xS.toArray⟩, .int .i64 yT, .int .u64 (yN : Int), .string ⟨yS.toArray⟩] 35) (by simp)).1
  have lr := (R4.box (b := b0) (o := .cells #[.int .i64 xT, .int .u64 (xN : Int), .string ⟨xS.toArray⟩, .int .i64 yT, .int .u64 (yN : Int), .string ⟨yS.toArray⟩] 35) (by simp)).2
  have R5 : RL own W m a nb tp [(b1, .cells #[.int .i64 6, .int .i64 0, .int .i64 0, .int .i64 0, .int .u64 0, .string ⟨#[]⟩, .int .i64 0, .int .u64 0, .string ⟨#[]⟩] 85), (b0, .cells #[.int .i64 xT, .int .u64 (xN : Int), .string ⟨xS.toArray⟩, .int .i64 yT, .int .u64 (yN : Int), .string ⟨yS.toArray⟩] 35)] M2 (((((((((w4.setCell ⟨b1, 0, none⟩ (.int .i64 6)).setCell ⟨b1, 1, none⟩ (.int .i64 0)).setCell ⟨b1, 2, none⟩ (.int .i64 0)).setCell ⟨b1, 3, none⟩ (.int .i64 0)).setCell ⟨b1, 4, none⟩ (.int .u64 0)).setCell ⟨b1, 5, none⟩ (.string ⟨#[]⟩)).setCell ⟨b1, 6, none⟩ (.int .i64 0)).setCell ⟨b1, 7, none⟩ (.int .u64 0)).setCell ⟨b1, 8, none⟩ (.string ⟨#[]⟩)) := R4.setE (n := b1) (by first | exact List.mem_cons_self | exact List.mem_cons_of_mem _ List.mem_cons_self) (B' := [(b0, .cells #[.int .i64 xT, .int .u64 (xN : Int), .string ⟨xS.toArray⟩, .int .i64 yT, .int .u64 (yN : Int), .string ⟨yS.toArray⟩] 35)]) (fun p hp => by
    have hd := HD.out
    rw [List.mem_singleton] at hp
    subst hp
    exact ⟨by simp, by show b0 ≠ b1; omega⟩) (.int .i64 6) (.int .i64 0) (.int .i64 0) (.int .i64 0) (.int .u64 0) (.string ⟨#[]⟩) (.int .i64 0) (.int .u64 0) (.string ⟨#[]⟩)
  clear R4
  go_upto_region 6 with fail
  clear e0 e1 e2 e3 e4 e5 e6 e7 e8 ez le r0 r1 r2 r3 r4 r5 rz lr
  generalize (((((((((w4.setCell ⟨b1, 0, none⟩ (.int .i64 6)).setCell ⟨b1, 1, none⟩ (.int .i64 0)).setCell ⟨b1, 2, none⟩ (.int .i64 0)).setCell ⟨b1, 3, none⟩ (.int .i64 0)).setCell ⟨b1, 4, none⟩ (.int .u64 0)).setCell ⟨b1, 5, none⟩ (.string ⟨#[]⟩)).setCell ⟨b1, 6, none⟩ (.int .i64 0)).setCell ⟨b1, 7, none⟩ (.int .u64 0)).setCell ⟨b1, 8, none⟩ (.string ⟨#[]⟩)) = w5 at *
  obtain ⟨e0, e1, e2, e3, e4, e5, e6, e7, e8, ez⟩ := cells9 (R5.box (b := b1) (o := .cells #[.int .i64 6, .int .i64 0, .int .i64 0, .int .i64 0, .int .u64 0, .string ⟨#[]⟩, .int .i64 0, .int .u64 0, .string ⟨#[]⟩] 85) (by simp)).1
  have le := (R5.box (b := b1) (o := .cells #[.int .i64 6, .int .i64 0, .int .i64 0, .int .i64 0, .int .u64 0, .string ⟨#[]⟩, .int .i64 0, .int .u64 0, .string ⟨#[]⟩] 85) (by simp)).2
  obtain ⟨r0, r1, r2, r3, r4, r5, rz⟩ := cells6 (R5.box (b := b0) (o := .cells #[.int .i64 xT, .int .u64 (xN : Int), .string ⟨xS.toArray⟩, .int .i64 yT, .int .u64 (yN : Int), .string ⟨yS.toArray⟩] 35) (by simp)).1
  have lr := (R5.box (b := b0) (o := .cells #[.int .i64 xT, .int .u64 (xN : Int), .string ⟨xS.toArray⟩, .int .i64 yT, .int .u64 (yN : Int), .string ⟨yS.toArray⟩] 35) (by simp)).2
  go_wp2_with fail
  refine (HFX.out _).mono ?_; rintro e w6 ⟨rfl, hb6⟩
  have R6 := R5.below hb6
  clear R5 hb6
  clear e0 e1 e2 e3 e4 e5 e6 e7 e8 ez le r0 r1 r2 r3 r4 r5 rz lr
  obtain ⟨e0, e1, e2, e3, e4, e5, e6, e7, e8, ez⟩ := cells9 (R6.box (b := b1) (o := .cells #[.int .i64 6, .int .i64 0, .int .i64 0, .int .i64 0, .int .u64 0, .string ⟨#[]⟩, .int .i64 0, .int .u64 0, .string ⟨#[]⟩] 85) (by simp)).1
  have le := (R6.box (b := b1) (o := .cells #[.int .i64 6, .int .i64 0, .int .i64 0, .int .i64 0, .int .u64 0, .string ⟨#[]⟩, .int .i64 0, .int .u64 0, .string ⟨#[]⟩] 85) (by simp)).2
  obtain ⟨r0, r1, r2, r3, r4, r5, rz⟩ := cells6 (R6.box (b := b0) (o := .cells #[.int .i64 xT, .int .u64 (xN : Int), .string ⟨xS.toArray⟩, .int .i64 yT, .int .u64 (yN : Int), .string ⟨yS.toArray⟩] 35) (by simp)).1
  have lr := (R6.box (b := b0) (o := .cells #[.int .i64 xT, .int .u64 (xN : Int), .string ⟨xS.toArray⟩, .int .i64 yT, .int .u64 (yN : Int), .string ⟨yS.toArray⟩] 35) (by simp)).2
  go_wp2_with fail
  refine (HFY.out _).mono ?_; rintro e w7 ⟨rfl, hb7⟩
  have R7 := R6.below hb7
  clear R6 hb7
  clear e0 e1 e2 e3 e4 e5 e6 e7 e8 ez le r0 r1 r2 r3 r4 r5 rz lr
  obtain ⟨e0, e1, e2, e3, e4, e5, e6, e7, e8, ez⟩ := cells9 (R7.box (b := b1) (o := .cells #[.int .i64 6, .int .i64 0, .int .i64 0, .int .i64 0, .int .u64 0, .string ⟨#[]⟩, .int .i64 0, .int .u64 0, .string ⟨#[]⟩] 85) (by simp)).1
  have le := (R7.box (b := b1) (o := .cells #[.int .i64 6, .int .i64 0, .int .i64 0, .int .i64 0, .int .u64 0, .string ⟨#[]⟩, .int .i64 0, .int .u64 0, .string ⟨#[]⟩] 85) (by simp)).2
  obtain ⟨r0, r1, r2, r3, r4, r5, rz⟩ := cells6 (R7.box (b := b0) (o := .cells #[.int .i64 xT, .int .u64 (xN : Int), .string ⟨xS.toArray⟩, .int .i64 yT, .int .u64 (yN : Int), .string ⟨yS.toArray⟩] 35) (by simp)).1
  have lr := (R7.box (b := b0) (o := .cells #[.int .i64 xT, .int .u64 (xN : Int), .string ⟨xS.toArray⟩, .int .i64 yT, .int .u64 (yN : Int), .string ⟨yS.toArray⟩] 35) (by simp)).2
  have HNX : Hid (∃ M', Nx own W m a nb tp M' w7) := ⟨_, R7.nx⟩
  clear R7
  go_wp2_with fail
  go_ret
  exact ⟨by simp, HNX.out⟩

set_option maxRecDepth 8000 in
set_option maxHeartbeats 1600000 in
theorem probe_b01 {own : Nat → Nat} {W : World} {m a nb tp : Nat} {M : Mc} (HV : Vm own W m a nb tp M) (x y : V) (hx : x.Ok) (hy : y.Ok) (hf : fitP x = false) (hg : fitP y = true) : Calls Tryz.prog 21 #[.pointer (some ⟨m, 0, none⟩), regV x y] W fun e w' => e = .returned (.bool true) ∧ ∃ M', Nx own W m a nb tp M' w' := by
  have P2 := play2_bad x y (by left; exact hf)
  have HTX := fun w => truthy_any x w
  have HTY := fun w => truthy_any y w
  have HFX := fun w => fit_any x w hx
  have HFY := fun w => fit_any y w hy
  rw [hf] at HFX
  rw [hg] at HFY
  obtain ⟨xT, xN, xS⟩ := x
  obtain ⟨yT, yN, yS⟩ := y
  have HTX : Hid (∀ w, Calls Tryz.prog 39 #[.agg #[.int .i64 xT, .int .u64 (xN : Int), .string ⟨xS.toArray⟩]] w fun e w' => e = .returned (.bool (truthy ⟨xT, xN, xS⟩)) ∧ Below w.heap.size w w') := HTX
  have HTY : Hid (∀ w, Calls Tryz.prog 39 #[.agg #[.int .i64 yT, .int .u64 (yN : Int), .string ⟨yS.toArray⟩]] w fun e w' => e = .returned (.bool (truthy ⟨yT, yN, yS⟩)) ∧ Below w.heap.size w w') := HTY
  have HFX : Hid (∀ w, Calls Tryz.prog 38 #[.agg #[.int .i64 xT, .int .u64 (xN : Int), .string ⟨xS.toArray⟩]] w fun e w' => e = .returned (.bool false) ∧ Below w.heap.size w w') := HFX
  have HFY : Hid (∀ w, Calls Tryz.prog 38 #[.agg #[.int .i64 yT, .int .u64 (yN : Int), .string ⟨yS.toArray⟩]] w fun e w' => e = .returned (.bool true) ∧ Below w.heap.size w w') := HFY
  have HOK : Hid ((⟨xT, xN, xS⟩ : V).Ok ∧ (⟨yT, yN, yS⟩ : V).Ok) := ⟨hx, hy⟩
  have HP : Hid (execP cM2 1 ⟨xT, xN, xS⟩ ⟨yT, yN, yS⟩ = (cM2, badEv)) := P2
  clear P2 hf hg hx hy
  have R0 := (RL.start HV).alloc (.cells #[.int .i64 xT, .int .u64 (xN : Int), .string ⟨xS.toArray⟩, .int .i64 yT, .int .u64 (yN : Int), .string ⟨yS.toArray⟩] 35) rfl
  have HC := R0.load catI 9 (by decide) ⟨by decide, by decide⟩
  rw [ca] at HC
  clear HV R0
  show Calls Tryz.prog 21 #[.pointer (some ⟨m, 0, none⟩), .agg #[.int .i64 xT, .int .u64 (xN : Int), .string ⟨xS.toArray⟩, .int .i64 yT, .int .u64 (yN : Int), .string ⟨yS.toArray⟩]] W _
  go_enter Tryz.func21, Tryz.ntmps21
  go_wp2_with fail
  refine HC.mono ?_; rintro e w1 ⟨rfl, R1⟩
  have HC2 := R1.exec (load_keeps catI 9 (by decide)) 0 nilV nilV nilOk2 nilOk2
  rw [cb] at HC2
  have HC2 : Calls Tryz.prog 37 #[.pointer (some ⟨m, 0, none⟩), .int .i64 0, .agg #[.int .i64 0, .int .u64 0, .string ⟨#[]⟩], .agg #[.int .i64 0, .int .u64 0, .string ⟨#[]⟩]] w1 fun e w' => e = .returned (.agg #[.int .i64 4, .int .i64 1, .int .i64 0, .int .i64 0, .int .u64 0, .string ⟨#[]⟩, .int .i64 0, .int .u64 0, .string ⟨#[]⟩]) ∧ RL own W m a nb tp [(W.heap.size, .cells #[.int .i64 xT, .int .u64 (xN : Int), .string ⟨xS.toArray⟩, .int .i64 yT, .int .u64 (yN : Int), .string ⟨yS.toArray⟩] 35)] cM2 w' := HC2
  have HK2 : Hid (Rest cM2) := cM2_rest
  generalize hM2 : cM2 = M2 at *
  clear hM2
  generalize hb0 : W.heap.size = b0 at *
  clear hb0
  obtain ⟨r0, r1, r2, r3, r4, r5, rz⟩ := cells6 (R1.box (b := b0) (o := .cells #[.int .i64 xT, .int .u64 (xN : Int), .string ⟨xS.toArray⟩, .int .i64 yT, .int .u64 (yN : Int), .string ⟨yS.toArray⟩] 35) (by simp)).1
  have lr := (R1.box (b := b0) (o := .cells #[.int .i64 xT, .int .u64 (xN : Int), .string ⟨xS.toArray⟩, .int .i64 yT, .int .u64 (yN : Int), .string ⟨yS.toArray⟩] 35) (by simp)).2
  clear R1 HC
  go_wp2_with fail
  refine HC2.mono ?_; rintro e w2 ⟨rfl, R2⟩
  have hne : b0 < w2.heap.size := (R2.box (b := b0) (o := .cells #[.int .i64 xT, .int .u64 (xN : Int), .string ⟨xS.toArray⟩, .int .i64 yT, .int .u64 (yN : Int), .string ⟨yS.toArray⟩] 35) (by simp)).2
  clear HC2
  clear r0 r1 r2 r3 r4 r5 rz lr
  go_upto_region 3 with fail
  have R3 : RL own W m a nb tp [(w2.heap.size, .cells #[.int .i64 4, .int .i64 1, .int .i64 0, .int .i64 0, .int .u64 0, .string ⟨#[]⟩, .int .i64 0, .int .u64 0, .string ⟨#[]⟩] 85), (b0, .cells #[.int .i64 xT, .int .u64 (xN : Int), .string ⟨xS.toArray⟩, .int .i64 yT, .int .u64 (yN : Int), .string ⟨yS.toArray⟩] 35)] M2 (w2.alloc (.cells #[.int .i64 4, .int .i64 1, .int .i64 0, .int .i64 0, .int .u64 0, .string ⟨#[]⟩, .int .i64 0, .int .u64 0, .string ⟨#[]⟩] 85)) := R2.alloc _ rfl
  generalize w2.alloc (.cells #[.int .i64 4, .int .i64 1, .int .i64 0, .int .i64 0, .int .u64 0, .string ⟨#[]⟩, .int .i64 0, .int .u64 0, .string ⟨#[]⟩] 85) = w3 at *
  generalize w2.heap.size = b1 at *
  have HD : Hid (b0 < b1) := hne
  clear R2 hne
  obtain ⟨e0, e1, e2, e3, e4, e5, e6, e7, e8, ez⟩ := cells9 (R3.box (b := b1) (o := .cells #[.int .i64 4, .int .i64 1, .int .i64 0, .int .i64 0, .int .u64 0, .string ⟨#[]⟩, .int .i64 0, .int .u64 0, .string ⟨#[]⟩] 85) (by simp)).1
  have le := (R3.box (b := b1) (o := .cells #[.int .i64 4, .int .i64 1, .int .i64 0, .int .i64 0, .int .u64 0, .string ⟨#[]⟩, .int .i64 0, .int .u64 0, .string ⟨#[]⟩] 85) (by simp)).2
  obtain ⟨r0, r1, r2, r3, r4, r5, rz⟩ := cells6 (R3.box (b := b0) (o := .cells #[.int .i64 xT, .int .u64 (xN : Int), .string ⟨xS.toArray⟩, .int .i64 yT, .int .u64 (yN : Int), .string ⟨yS.toArray⟩] 35) (by simp)).1
  have lr := (R3.box (b := b0) (o := .cells #[.int .i64 xT, .int .u64 (xN : Int), .string ⟨xS.toArray⟩, .int .i64 yT, .int .u64 (yN : Int), .string ⟨yS.toArray⟩] 35) (by simp)).2
  have HC3 := R3.exec HK2.out 1 ⟨xT, xN, xS⟩ ⟨yT, yN, yS⟩ HOK.out.1 HOK.out.2
  rw [HP.out] at HC3
  have HC3 : Calls Tryz.prog 37 #[.pointer (some ⟨m, 0, none⟩), .int .i64 1, .agg #[.int .i64 xT, .int .u64 (xN : Int), .string ⟨xS.toArray⟩], .agg #[.int .i64 yT, .int .u64 (yN : Int), .string ⟨yS.toArray⟩]] w3 fun e w' => e = .returned (.agg #[.int .i64 6, .int .i64 0, .int .i64 0, .int .i64 0, .int .u64 0, .string ⟨#[]⟩, .int .i64 0, .int .u64 0, .string ⟨#[]⟩]) ∧ RL own W m a nb tp [(b1, .cells #[.int .i64 4, .int .i64 1, .int .i64 0, .int .i64 0, .int .u64 0, .string ⟨#[]⟩, .int .i64 0, .int .u64 0, .string ⟨#[]⟩] 85), (b0, .cells #[.int .i64 xT, .int .u64 (xN : Int), .string ⟨xS.toArray⟩, .int .i64 yT, .int .u64 (yN : Int), .string ⟨yS.toArray⟩] 35)] M2 w' := HC3
  clear R3
  go_wp2_with fail
  refine HC3.mono ?_; rintro e w4 ⟨rfl, R4⟩
  clear HC3
  clear e0 e1 e2 e3 e4 e5 e6 e7 e8 ez le r0 r1 r2 r3 r4 r5 rz lr
  obtain ⟨e0, e1, e2, e3, e4, e5, e6, e7, e8, ez⟩ := cells9 (R4.box (b := b1) (o := .cells #[.int .i64 4, .int .i64 1, .int .i64 0, .int .i64 0, .int .u64 0, .string ⟨#[]⟩, .int .i64 0, .int .u64 0, .string ⟨#[]⟩] 85) (by simp)).1
  have le := (R4.box (b := b1) (o := .cells #[.int .i64 4, .int .i64 1, .int .i64 0, .int .i64 0, .int .u64 0, .string ⟨#[]⟩, .int .i64 0, .int .u64 0, .string ⟨#[]⟩] 85) (by simp)).2
  obtain ⟨r0, r1, r2, r3, r4, r5, rz⟩ := cells6 (R4.box (b := b0) (o := .cells #[.int .i64 xT, .int .u64 (xN : Int), .string ⟨xS.toArray⟩, .int .i64 yT, .int .u64 (yN : Int), .string ⟨yS.toArray⟩] 35) (by simp)).1
  have lr := (R4.box (b := b0) (o := .cells #[.int .i64 xT, .int .u64 (xN : Int), .string ⟨xS.toArray⟩, .int .i64 yT, .int .u64 (yN : Int), .string ⟨yS.toArray⟩] 35) (by simp)).2
  have R5 : RL own W m a nb tp [(b1, .cells #[.int .i64 6, .int .i64 0, .int .i64 0, .int .i64 0, .int .u64 0, .string ⟨#[]⟩, .int .i64 0, .int .u64 0, .string ⟨#[]⟩] 85), (b0, .cells #[.int .i64 xT, .int .u64 (xN : Int), .string ⟨xS.toArray⟩, .int .i64 yT, .int .u64 (yN : Int), .string ⟨yS.toArray⟩] 35)] M2 (((((((((w4.setCell ⟨b1, 0, none⟩ (.int .i64 6)).setCell ⟨b1, 1, none⟩ (.int .i64 0)).setCell ⟨b1, 2, none⟩ (.int .i64 0)).setCell ⟨b1, 3, none⟩ (.int .i64 0)).setCell ⟨b1, 4, none⟩ (.int .u64 0)).setCell ⟨b1, 5, none⟩ (.string ⟨#[]⟩)).setCell ⟨b1, 6, none⟩ (.int .i64 0)).setCell ⟨b1, 7, none⟩ (.int .u64 0)).setCell ⟨b1, 8, none⟩ (.string ⟨#[]⟩)) := R4.setE (n := b1) (by first | exact List.mem_cons_self | exact List.mem_cons_of_mem _ List.mem_cons_self) (B' := [(b0, .cells #[.int .i64 xT, .int .u64 (xN : Int), .string ⟨xS.toArray⟩, .int .i64 yT, .int .u64 (yN : Int), .string ⟨yS.toArray⟩] 35)]) (fun p hp => by
    have hd := HD.out
    rw [List.mem_singleton] at hp
    subst hp
    exact ⟨by simp, by show b0 ≠ b1; omega⟩) (.int .i64 6) (.int .i64 0) (.int .i64 0) (.int .i64 0) (.int .u64 0) (.string ⟨#[]⟩) (.int .i64 0) (.int .u64 0) (.string ⟨#[]⟩)
  clear R4
  go_upto_region 6 with fail
  clear e0 e1 e2 e3 e4 e5 e6 e7 e8 ez le r0 r1 r2 r3 r4 r5 rz lr
  generalize (((((((((w4.setCell ⟨b1, 0, none⟩ (.int .i64 6)).setCell ⟨b1, 1, none⟩ (.int .i64 0)).setCell ⟨b1, 2, none⟩ (.int .i64 0)).setCell ⟨b1, 3, none⟩ (.int .i64 0)).setCell ⟨b1, 4, none⟩ (.int .u64 0)).setCell ⟨b1, 5, none⟩ (.string ⟨#[]⟩)).setCell ⟨b1, 6, none⟩ (.int .i64 0)).setCell ⟨b1, 7, none⟩ (.int .u64 0)).setCell ⟨b1, 8, none⟩ (.string ⟨#[]⟩)) = w5 at *
  obtain ⟨e0, e1, e2, e3, e4, e5, e6, e7, e8, ez⟩ := cells9 (R5.box (b := b1) (o := .cells #[.int .i64 6, .int .i64 0, .int .i64 0, .int .i64 0, .int .u64 0, .string ⟨#[]⟩, .int .i64 0, .int .u64 0, .string ⟨#[]⟩] 85) (by simp)).1
  have le := (R5.box (b := b1) (o := .cells #[.int .i64 6, .int .i64 0, .int .i64 0, .int .i64 0, .int .u64 0, .string ⟨#[]⟩, .int .i64 0, .int .u64 0, .string ⟨#[]⟩] 85) (by simp)).2
  obtain ⟨r0, r1, r2, r3, r4, r5, rz⟩ := cells6 (R5.box (b := b0) (o := .cells #[.int .i64 xT, .int .u64 (xN : Int), .string ⟨xS.toArray⟩, .int .i64 yT, .int .u64 (yN : Int), .string ⟨yS.toArray⟩] 35) (by simp)).1
  have lr := (R5.box (b := b0) (o := .cells #[.int .i64 xT, .int .u64 (xN : Int), .string ⟨xS.toArray⟩, .int .i64 yT, .int .u64 (yN : Int), .string ⟨yS.toArray⟩] 35) (by simp)).2
  go_wp2_with fail
  refine (HFX.out _).mono ?_; rintro e w6 ⟨rfl, hb6⟩
  have R6 := R5.below hb6
  clear R5 hb6
  clear e0 e1 e2 e3 e4 e5 e6 e7 e8 ez le r0 r1 r2 r3 r4 r5 rz lr
  obtain ⟨e0, e1, e2, e3, e4, e5, e6, e7, e8, ez⟩ := cells9 (R6.box (b := b1) (o := .cells #[.int .i64 6, .int .i64 0, .int .i64 0, .int .i64 0, .int .u64 0, .string ⟨#[]⟩, .int .i64 0, .int .u64 0, .string ⟨#[]⟩] 85) (by simp)).1
  have le := (R6.box (b := b1) (o := .cells #[.int .i64 6, .int .i64 0, .int .i64 0, .int .i64 0, .int .u64 0, .string ⟨#[]⟩, .int .i64 0, .int .u64 0, .string ⟨#[]⟩] 85) (by simp)).2
  obtain ⟨r0, r1, r2, r3, r4, r5, rz⟩ := cells6 (R6.box (b := b0) (o := .cells #[.int .i64 xT, .int .u64 (xN : Int), .string ⟨xS.toArray⟩, .int .i64 yT, .int .u64 (yN : Int), .string ⟨yS.toArray⟩] 35) (by simp)).1
  have lr := (R6.box (b := b0) (o := .cells #[.int .i64 xT, .int .u64 (xN : Int), .string ⟨xS.toArray⟩, .int .i64 yT, .int .u64 (yN : Int), .string ⟨yS.toArray⟩] 35) (by simp)).2
  go_wp2_with fail
  refine (HFY.out _).mono ?_; rintro e w7 ⟨rfl, hb7⟩
  have R7 := R6.below hb7
  clear R6 hb7
  clear e0 e1 e2 e3 e4 e5 e6 e7 e8 ez le r0 r1 r2 r3 r4 r5 rz lr
  obtain ⟨e0, e1, e2, e3, e4, e5, e6, e7, e8, ez⟩ := cells9 (R7.box (b := b1) (o := .cells #[.int .i64 6, .int .i64 0, .int .i64 0, .int .i64 0, .int .u64 0, .string ⟨#[]⟩, .int .i64 0, .int .u64 0, .string ⟨#[]⟩] 85) (by simp)).1
  have le := (R7.box (b := b1) (o := .cells #[.int .i64 6, .int .i64 0, .int .i64 0, .int .i64 0, .int .u64 0, .string ⟨#[]⟩, .int .i64 0, .int .u64 0, .string ⟨#[]⟩] 85) (by simp)).2
  obtain ⟨r0, r1, r2, r3, r4, r5, rz⟩ := cells6 (R7.box (b := b0) (o := .cells #[.int .i64 xT, .int .u64 (xN : Int), .string ⟨xS.toArray⟩, .int .i64 yT, .int .u64 (yN : Int), .string ⟨yS.toArray⟩] 35) (by simp)).1
  have lr := (R7.box (b := b0) (o := .cells #[.int .i64 xT, .int .u64 (xN : Int), .string ⟨xS.toArray⟩, .int .i64 yT, .int .u64 (yN : Int), .string ⟨yS.toArray⟩] 35) (by simp)).2
  have HNX : Hid (∃ M', Nx own W m a nb tp M' w7) := ⟨_, R7.nx⟩
  clear R7
  go_wp2_with fail
  go_ret
  exact ⟨by simp, HNX.out⟩

set_option maxRecDepth 8000 in
set_option maxHeartbeats 1600000 in
theorem probe_b10 {own : Nat → Nat} {W : World} {m a nb tp : Nat} {M : Mc} (HV : Vm own W m a nb tp M) (x y : V) (hx : x.Ok) (hy : y.Ok) (hf : fitP x = true) (hg : fitP y = false) : Calls Tryz.prog 21 #[.pointer (some ⟨m, 0, none⟩), regV x y] W fun e w' => e = .returned (.bool true) ∧ ∃ M', Nx own W m a nb tp M' w' := by
  have P2 := play2_bad x y (by right; exact hg)
  have HTX := fun w => truthy_any x w
  have HTY := fun w => truthy_any y w
  have HFX := fun w => fit_any x w hx
  have HFY := fun w => fit_any y w hy
  rw [hf] at HFX
  rw [hg] at HFY
  obtain ⟨xT, xN, xS⟩ := x
  obtain ⟨yT, yN, yS⟩ := y
  have HTX : Hid (∀ w, Calls Tryz.prog 39 #[.agg #[.int .i64 xT, .int .u64 (xN : Int), .string ⟨xS.toArray⟩]] w fun e w' => e = .returned (.bool (truthy ⟨xT, xN, xS⟩)) ∧ Below w.heap.size w w') := HTX
  have HTY : Hid (∀ w, Calls Tryz.prog 39 #[.agg #[.int .i64 yT, .int .u64 (yN : Int), .string ⟨yS.toArray⟩]] w fun e w' => e = .returned (.bool (truthy ⟨yT, yN, yS⟩)) ∧ Below w.heap.size w w') := HTY
  have HFX : Hid (∀ w, Calls Tryz.prog 38 #[.agg #[.int .i64 xT, .int .u64 (xN : Int), .string ⟨xS.toArray⟩]] w fun e w' => e = .returned (.bool true) ∧ Below w.heap.size w w') := HFX
  have HFY : Hid (∀ w, Calls Tryz.prog 38 #[.agg #[.int .i64 yT, .int .u64 (yN : Int), .string ⟨yS.toArray⟩]] w fun e w' => e = .returned (.bool false) ∧ Below w.heap.size w w') := HFY
  have HOK : Hid ((⟨xT, xN, xS⟩ : V).Ok ∧ (⟨yT, yN, yS⟩ : V).Ok) := ⟨hx, hy⟩
  have HP : Hid (execP cM2 1 ⟨xT, xN, xS⟩ ⟨yT, yN, yS⟩ = (cM2, badEv)) := P2
  clear P2 hf hg hx hy
  have R0 := (RL.start HV).alloc (.cells #[.int .i64 xT, .int .u64 (xN : Int), .string ⟨xS.toArray⟩, .int .i64 yT, .int .u64 (yN : Int), .string ⟨yS.toArray⟩] 35) rfl
  have HC := R0.load catI 9 (by decide) ⟨by decide, by decide⟩
  rw [ca] at HC
  clear HV R0
  show Calls Tryz.prog 21 #[.pointer (some ⟨m, 0, none⟩), .agg #[.int .i64 xT, .int .u64 (xN : Int), .string ⟨xS.toArray⟩, .int .i64 yT, .int .u64 (yN : Int), .string ⟨yS.toArray⟩]] W _
  go_enter Tryz.func21, Tryz.ntmps21
  go_wp2_with fail
  refine HC.mono ?_; rintro e w1 ⟨rfl, R1⟩
  have HC2 := R1.exec (load_keeps catI 9 (by decide)) 0 nilV nilV nilOk2 nilOk2
  rw [cb] at HC2
  have HC2 : Calls Tryz.prog 37 #[.pointer (some ⟨m, 0, none⟩), .int .i64 0, .agg #[.int .i64 0, .int .u64 0, .string ⟨#[]⟩], .agg #[.int .i64 0, .int .u64 0, .string ⟨#[]⟩]] w1 fun e w' => e = .returned (.agg #[.int .i64 4, .int .i64 1, .int .i64 0, .int .i64 0, .int .u64 0, .string ⟨#[]⟩, .int .i64 0, .int .u64 0, .string ⟨#[]⟩]) ∧ RL own W m a nb tp [(W.heap.size, .cells #[.int .i64 xT, .int .u64 (xN : Int), .string ⟨xS.toArray⟩, .int .i64 yT, .int .u64 (yN : Int), .string ⟨yS.toArray⟩] 35)] cM2 w' := HC2
  have HK2 : Hid (Rest cM2) := cM2_rest
  generalize hM2 : cM2 = M2 at *
  clear hM2
  generalize hb0 : W.heap.size = b0 at *
  clear hb0
  obtain ⟨r0, r1, r2, r3, r4, r5, rz⟩ := cells6 (R1.box (b := b0) (o := .cells #[.int .i64 xT, .int .u64 (xN : Int), .string ⟨xS.toArray⟩, .int .i64 yT, .int .u64 (yN : Int), .string ⟨yS.toArray⟩] 35) (by simp)).1
  have lr := (R1.box (b := b0) (o := .cells #[.int .i64 xT, .int .u64 (xN : Int), .string ⟨xS.toArray⟩, .int .i64 yT, .int .u64 (yN : Int), .string ⟨yS.toArray⟩] 35) (by simp)).2
  clear R1 HC
  go_wp2_with fail
  refine HC2.mono ?_; rintro e w2 ⟨rfl, R2⟩
  have hne : b0 < w2.heap.size := (R2.box (b := b0) (o := .cells #[.int .i64 xT, .int .u64 (xN : Int), .string ⟨xS.toArray⟩, .int .i64 yT, .int .u64 (yN : Int), .string ⟨yS.toArray⟩] 35) (by simp)).2
  clear HC2
  clear r0 r1 r2 r3 r4 r5 rz lr
  go_upto_region 3 with fail
  have R3 : RL own W m a nb tp [(w2.heap.size, .cells #[.int .i64 4, .int .i64 1, .int .i64 0, .int .i64 0, .int .u64 0, .string ⟨#[]⟩, .int .i64 0, .int .u64 0, .string ⟨#[]⟩] 85), (b0, .cells #[.int .i64 xT, .int .u64 (xN : Int), .string ⟨xS.toArray⟩, .int .i64 yT, .int .u64 (yN : Int), .string ⟨yS.toArray⟩] 35)] M2 (w2.alloc (.cells #[.int .i64 4, .int .i64 1, .int .i64 0, .int .i64 0, .int .u64 0, .string ⟨#[]⟩, .int .i64 0, .int .u64 0, .string ⟨#[]⟩] 85)) := R2.alloc _ rfl
  generalize w2.alloc (.cells #[.int .i64 4, .int .i64 1, .int .i64 0, .int .i64 0, .int .u64 0, .string ⟨#[]⟩, .int .i64 0, .int .u64 0, .string ⟨#[]⟩] 85) = w3 at *
  generalize w2.heap.size = b1 at *
  have HD : Hid (b0 < b1) := hne
  clear R2 hne
  obtain ⟨e0, e1, e2, e3, e4, e5, e6, e7, e8, ez⟩ := cells9 (R3.box (b := b1) (o := .cells #[.int .i64 4, .int .i64 1, .int .i64 0, .int .i64 0, .int .u64 0, .string ⟨#[]⟩, .int .i64 0, .int .u64 0, .string ⟨#[]⟩] 85) (by simp)).1
  have le := (R3.box (b := b1) (o := .cells #[.int .i64 4, .int .i64 1, .int .i64 0, .int .i64 0, .int .u64 0, .string ⟨#[]⟩, .int .i64 0, .int .u64 0, .string ⟨#[]⟩] 85) (by simp)).2
  obtain ⟨r0, r1, r2, r3, r4, r5, rz⟩ := cells6 (R3.box (b := b0) (o := .cells #[.int .i64 xT, .int .u64 (xN : Int), .string ⟨xS.toArray⟩, .int .i64 yT, .int .u64 (yN : Int), .string ⟨yS.toArray⟩] 35) (by simp)).1
  have lr := (R3.box (b := b0) (o := .cells #[.int .i64 xT, .int .u64 (xN : Int), .string ⟨xS.toArray⟩, .int .i64 yT, .int .u64 (yN : Int), .string ⟨yS.toArray⟩] 35) (by simp)).2
  have HC3 := R3.exec HK2.out 1 ⟨xT, xN, xS⟩ ⟨yT, yN, yS⟩ HOK.out.1 HOK.out.2
  rw [HP.out] at HC3
  have HC3 : Calls Tryz.prog 37 #[.pointer (some ⟨m, 0, none⟩), .int .i64 1, .agg #[.int .i64 xT, .int .u64 (xN : Int), .string ⟨xS.toArray⟩], .agg #[.int .i64 yT, .int .u64 (yN : Int), .string ⟨yS.toArray⟩]] w3 fun e w' => e = .returned (.agg #[.int .i64 6, .int .i64 0, .int .i64 0, .int .i64 0, .int .u64 0, .string ⟨#[]⟩, .int .i64 0, .int .u64 0, .string ⟨#[]⟩]) ∧ RL own W m a nb tp [(b1, .cells #[.int .i64 4, .int .i64 1, .int .i64 0, .int .i64 0, .int .u64 0, .string ⟨#[]⟩, .int .i64 0, .int .u64 0, .string ⟨#[]⟩] 85), (b0, .cells #[.int .i64 xT, .int .u64 (xN : Int), .string ⟨xS.toArray⟩, .int .i64 yT, .int .u64 (yN : Int), .string ⟨yS.toArray⟩] 35)] M2 w' := HC3
  clear R3
  go_wp2_with fail
  refine HC3.mono ?_; rintro e w4 ⟨rfl, R4⟩
  clear HC3
  clear e0 e1 e2 e3 e4 e5 e6 e7 e8 ez le r0 r1 r2 r3 r4 r5 rz lr
  obtain ⟨e0, e1, e2, e3, e4, e5, e6, e7, e8, ez⟩ := cells9 (R4.box (b := b1) (o := .cells #[.int .i64 4, .int .i64 1, .int .i64 0, .int .i64 0, .int .u64 0, .string ⟨#[]⟩, .int .i64 0, .int .u64 0, .string ⟨#[]⟩] 85) (by simp)).1
  have le := (R4.box (b := b1) (o := .cells #[.int .i64 4, .int .i64 1, .int .i64 0, .int .i64 0, .int .u64 0, .string ⟨#[]⟩, .int .i64 0, .int .u64 0, .string ⟨#[]⟩] 85) (by simp)).2
  obtain ⟨r0, r1, r2, r3, r4, r5, rz⟩ := cells6 (R4.box (b := b0) (o := .cells #[.int .i64 xT, .int .u64 (xN : Int), .string ⟨xS.toArray⟩, .int .i64 yT, .int .u64 (yN : Int), .string ⟨yS.toArray⟩] 35) (by simp)).1
  have lr := (R4.box (b := b0) (o := .cells #[.int .i64 xT, .int .u64 (xN : Int), .string ⟨xS.toArray⟩, .int .i64 yT, .int .u64 (yN : Int), .string ⟨yS.toArray⟩] 35) (by simp)).2
  have R5 : RL own W m a nb tp [(b1, .cells #[.int .i64 6, .int .i64 0, .int .i64 0, .int .i64 0, .int .u64 0, .string ⟨#[]⟩, .int .i64 0, .int .u64 0, .string ⟨#[]⟩] 85), (b0, .cells #[.int .i64 xT, .int .u64 (xN : Int), .string ⟨xS.toArray⟩, .int .i64 yT, .int .u64 (yN : Int), .string ⟨yS.toArray⟩] 35)] M2 (((((((((w4.setCell ⟨b1, 0, none⟩ (.int .i64 6)).setCell ⟨b1, 1, none⟩ (.int .i64 0)).setCell ⟨b1, 2, none⟩ (.int .i64 0)).setCell ⟨b1, 3, none⟩ (.int .i64 0)).setCell ⟨b1, 4, none⟩ (.int .u64 0)).setCell ⟨b1, 5, none⟩ (.string ⟨#[]⟩)).setCell ⟨b1, 6, none⟩ (.int .i64 0)).setCell ⟨b1, 7, none⟩ (.int .u64 0)).setCell ⟨b1, 8, none⟩ (.string ⟨#[]⟩)) := R4.setE (n := b1) (by first | exact List.mem_cons_self | exact List.mem_cons_of_mem _ List.mem_cons_self) (B' := [(b0, .cells #[.int .i64 xT, .int .u64 (xN : Int), .string ⟨xS.toArray⟩, .int .i64 yT, .int .u64 (yN : Int), .string ⟨yS.toArray⟩] 35)]) (fun p hp => by
    have hd := HD.out
    rw [List.mem_singleton] at hp
    subst hp
    exact ⟨by simp, by show b0 ≠ b1; omega⟩) (.int .i64 6) (.int .i64 0) (.int .i64 0) (.int .i64 0) (.int .u64 0) (.string ⟨#[]⟩) (.int .i64 0) (.int .u64 0) (.string ⟨#[]⟩)
  clear R4
  go_upto_region 6 with fail
  clear e0 e1 e2 e3 e4 e5 e6 e7 e8 ez le r0 r1 r2 r3 r4 r5 rz lr
  generalize (((((((((w4.setCell ⟨b1, 0, none⟩ (.int .i64 6)).setCell ⟨b1, 1, none⟩ (.int .i64 0)).setCell ⟨b1, 2, none⟩ (.int .i64 0)).setCell ⟨b1, 3, none⟩ (.int .i64 0)).setCell ⟨b1, 4, none⟩ (.int .u64 0)).setCell ⟨b1, 5, none⟩ (.string ⟨#[]⟩)).setCell ⟨b1, 6, none⟩ (.int .i64 0)).setCell ⟨b1, 7, none⟩ (.int .u64 0)).setCell ⟨b1, 8, none⟩ (.string ⟨#[]⟩)) = w5 at *
  obtain ⟨e0, e1, e2, e3, e4, e5, e6, e7, e8, ez⟩ := cells9 (R5.box (b := b1) (o := .cells #[.int .i64 6, .int .i64 0, .int .i64 0, .int .i64 0, .int .u64 0, .string ⟨#[]⟩, .int .i64 0, .int .u64 0, .string ⟨#[]⟩] 85) (by simp)).1
  have le := (R5.box (b := b1) (o := .cells #[.int .i64 6, .int .i64 0, .int .i64 0, .int .i64 0, .int .u64 0, .string ⟨#[]⟩, .int .i64 0, .int .u64 0, .string ⟨#[]⟩] 85) (by simp)).2
  obtain ⟨r0, r1, r2, r3, r4, r5, rz⟩ := cells6 (R5.box (b := b0) (o := .cells #[.int .i64 xT, .int .u64 (xN : Int), .string ⟨xS.toArray⟩, .int .i64 yT, .int .u64 (yN : Int), .string ⟨yS.toArray⟩] 35) (by simp)).1
  have lr := (R5.box (b := b0) (o := .cells #[.int .i64 xT, .int .u64 (xN : Int), .string ⟨xS.toArray⟩, .int .i64 yT, .int .u64 (yN : Int), .string ⟨yS.toArray⟩] 35) (by simp)).2
  go_wp2_with fail
  refine (HFX.out _).mono ?_; rintro e w6 ⟨rfl, hb6⟩
  have R6 := R5.below hb6
  clear R5 hb6
  clear e0 e1 e2 e3 e4 e5 e6 e7 e8 ez le r0 r1 r2 r3 r4 r5 rz lr
  obtain ⟨e0, e1, e2, e3, e4, e5, e6, e7, e8, ez⟩ := cells9 (R6.box (b := b1) (o := .cells #[.int .i64 6, .int .i64 0, .int .i64 0, .int .i64 0, .int .u64 0, .string ⟨#[]⟩, .int .i64 0, .int .u64 0, .string ⟨#[]⟩] 85) (by simp)).1
  have le := (R6.box (b := b1) (o := .cells #[.int .i64 6, .int .i64 0, .int .i64 0, .int .i64 0, .int .u64 0, .string ⟨#[]⟩, .int .i64 0, .int .u64 0, .string ⟨#[]⟩] 85) (by simp)).2
  obtain ⟨r0, r1, r2, r3, r4, r5, rz⟩ := cells6 (R6.box (b := b0) (o := .cells #[.int .i64 xT, .int .u64 (xN : Int), .string ⟨xS.toArray⟩, .int .i64 yT, .int .u64 (yN : Int), .string ⟨yS.toArray⟩] 35) (by simp)).1
  have lr := (R6.box (b := b0) (o := .cells #[.int .i64 xT, .int .u64 (xN : Int), .string ⟨xS.toArray⟩, .int .i64 yT, .int .u64 (yN : Int), .string ⟨yS.toArray⟩] 35) (by simp)).2
  go_wp2_with fail
  refine (HFY.out _).mono ?_; rintro e w7 ⟨rfl, hb7⟩
  have R7 := R6.below hb7
  clear R6 hb7
  clear e0 e1 e2 e3 e4 e5 e6 e7 e8 ez le r0 r1 r2 r3 r4 r5 rz lr
  obtain ⟨e0, e1, e2, e3, e4, e5, e6, e7, e8, ez⟩ := cells9 (R7.box (b := b1) (o := .cells #[.int .i64 6, .int .i64 0, .int .i64 0, .int .i64 0, .int .u64 0, .string ⟨#[]⟩, .int .i64 0, .int .u64 0, .string ⟨#[]⟩] 85) (by simp)).1
  have le := (R7.box (b := b1) (o := .cells #[.int .i64 6, .int .i64 0, .int .i64 0, .int .i64 0, .int .u64 0, .string ⟨#[]⟩, .int .i64 0, .int .u64 0, .string ⟨#[]⟩] 85) (by simp)).2
  obtain ⟨r0, r1, r2, r3, r4, r5, rz⟩ := cells6 (R7.box (b := b0) (o := .cells #[.int .i64 xT, .int .u64 (xN : Int), .string ⟨xS.toArray⟩, .int .i64 yT, .int .u64 (yN : Int), .string ⟨yS.toArray⟩] 35) (by simp)).1
  have lr := (R7.box (b := b0) (o := .cells #[.int .i64 xT, .int .u64 (xN : Int), .string ⟨xS.toArray⟩, .int .i64 yT, .int .u64 (yN : Int), .string ⟨yS.toArray⟩] 35) (by simp)).2
  have HNX : Hid (∃ M', Nx own W m a nb tp M' w7) := ⟨_, R7.nx⟩
  clear R7
  go_wp2_with fail
  go_ret
  exact ⟨by simp, HNX.out⟩

set_option maxRecDepth 8000 in
set_option maxHeartbeats 1600000 in
theorem probe_g00 {own : Nat → Nat} {W : World} {m a nb tp : Nat} {M : Mc} (HV : Vm own W m a nb tp M) (x y : V) (hx : x.Ok) (hy : y.Ok) (hf : fitP x = true) (hg : fitP y = true) (hty : truthy y = false) (htx : truthy x = false) : Calls Tryz.prog 21 #[.pointer (some ⟨m, 0, none⟩), regV x y] W fun e w' => e = .returned (.bool true) ∧ ∃ M', Nx own W m a nb tp M' w' := by
  have P2 := play2 x y hf hg
  have P3 := play3 x y hf hg
  obtain ⟨P4, P5⟩ := play4 x y hf hg
  rw [hty] at P3 P5
  rw [htx] at P4
  have K3 : Rest (cM3 x) := by have h := (exec_ev cM2_rest 1 hx.N hy.N).2.2; rw [P2] at h; dsimp only at h; exact h
  have K4 : Rest (cM4 x y) := by have h := (exec_ev K3 1 hy.N hx.N).2.2; rw [P3] at h; dsimp only at h; exact h
  have HTX := fun w => truthy_any x w
  have HTY := fun w => truthy_any y w
  have HFX := fun w => fit_any x w hx
  have HFY := fun w => fit_any y w hy
  rw [hf] at HFX
  rw [hg] at HFY
  rw [htx] at HTX
  rw [hty] at HTY
  generalize cM3 x = M3 at *
  generalize cM4 x y = M4 at *
  generalize hM5 : (execP M4 0 x y).1 = M5 at P5
  obtain ⟨xT, xN, xS⟩ := x
  obtain ⟨yT, yN, yS⟩ := y
  have HTX : Hid (∀ w, Calls Tryz.prog 39 #[.agg #[.int .i64 xT, .int .u64 (xN : Int), .string ⟨xS.toArray⟩]] w fun e w' => e = .returned (.bool false) ∧ Below w.heap.size w w') := HTX
  have HTY : Hid (∀ w, Calls Tryz.prog 39 #[.agg #[.int .i64 yT, .int .u64 (yN : Int), .string ⟨yS.toArray⟩]] w fun e w' => e = .returned (.bool false) ∧ Below w.heap.size w w') := HTY
  have HFX : Hid (∀ w, Calls Tryz.prog 38 #[.agg #[.int .i64 xT, .int .u64 (xN : Int), .string ⟨xS.toArray⟩]] w fun e w' => e = .returned (.bool true) ∧ Below w.heap.size w w') := HFX
  have HFY : Hid (∀ w, Calls Tryz.prog 38 #[.agg #[.int .i64 yT, .int .u64 (yN : Int), .string ⟨yS.toArray⟩]] w fun e w' => e = .returned (.bool true) ∧ Below w.heap.size w w') := HFY
  have HOK : Hid ((⟨xT, xN, xS⟩ : V).Ok ∧ (⟨yT, yN, yS⟩ : V).Ok) := ⟨hx, hy⟩
  have HP : Hid (execP cM2 1 ⟨xT, xN, xS⟩ ⟨yT, yN, yS⟩ = (M3, ⟨3, 0, 0, ⟨xT, xN, xS⟩, nilV⟩) ∧ execP M3 1 ⟨yT, yN, yS⟩ ⟨xT, xN, xS⟩ = _ ∧ (execP M4 0 ⟨xT, xN, xS⟩ ⟨yT, yN, yS⟩).2 = _ ∧ M5.fuel = _ ∧ (execP M4 0 ⟨xT, xN, xS⟩ ⟨yT, yN, yS⟩).1 = M5) := ⟨P2, P3, P4, P5, hM5⟩
  have HK : Hid (Rest M3 ∧ Rest M4) := ⟨K3, K4⟩
  clear P2 P3 P4 P5 K3 K4 hty htx hf hg hx hy hM5
  have R0 := (RL.start HV).alloc (.cells #[.int .i64 xT, .int .u64 (xN : Int), .string ⟨xS.toArray⟩, .int .i64 yT, .int .u64 (yN : Int), .string ⟨yS.toArray⟩] 35) rfl
  have HC := R0.load catI 9 (by decide) ⟨by decide, by decide⟩
  rw [ca] at HC
  clear HV R0
  show Calls Tryz.prog 21 #[.pointer (some ⟨m, 0, none⟩), .agg #[.int .i64 xT, .int .u64 (xN : Int), .string ⟨xS.toArray⟩, .int .i64 yT, .int .u64 (yN : Int), .string ⟨yS.toArray⟩]] W _
  go_enter Tryz.func21, Tryz.ntmps21
  go_wp2_with fail
  refine HC.mono ?_; rintro e w1 ⟨rfl, R1⟩
  have HC2 := R1.exec (load_keeps catI 9 (by decide)) 0 nilV nilV nilOk2 nilOk2
  rw [cb] at HC2
  have HC2 : Calls Tryz.prog 37 #[.pointer (some ⟨m, 0, none⟩), .int .i64 0, .agg #[.int .i64 0, .int .u64 0, .string ⟨#[]⟩], .agg #[.int .i64 0, .int .u64 0, .string ⟨#[]⟩]] w1 fun e w' => e = .returned (.agg #[.int .i64 4, .int .i64 1, .int .i64 0, .int .i64 0, .int .u64 0, .string ⟨#[]⟩, .int .i64 0, .int .u64 0, .string ⟨#[]⟩]) ∧ RL own W m a nb tp [(W.heap.size, .cells #[.int .i64 xT, .int .u64 (xN : Int), .string ⟨xS.toArray⟩, .int .i64 yT, .int .u64 (yN : Int), .string ⟨yS.toArray⟩] 35)] cM2 w' := HC2
  have HK2 : Hid (Rest cM2) := cM2_rest
  generalize hM2 : cM2 = M2 at *
  clear hM2
  generalize hb0 : W.heap.size = b0 at *
  clear hb0
  obtain ⟨r0, r1, r2, r3, r4, r5, rz⟩ := cells6 (R1.box (b := b0) (o := .cells #[.int .i64 xT, .int .u64 (xN : Int), .string ⟨xS.toArray⟩, .int .i64 yT, .int .u64 (yN : Int), .string ⟨yS.toArray⟩] 35) (by simp)).1
  have lr := (R1.box (b := b0) (o := .cells #[.int .i64 xT, .int .u64 (xN : Int), .string ⟨xS.toArray⟩, .int .i64 yT, .int .u64 (yN : Int), .string ⟨yS.toArray⟩] 35) (by simp)).2
  clear R1 HC
  go_wp2_with fail
  refine HC2.mono ?_; rintro e w2 ⟨rfl, R2⟩
  have hne : b0 < w2.heap.size := (R2.box (b := b0) (o := .cells #[.int .i64 xT, .int .u64 (xN : Int), .string ⟨xS.toArray⟩, .int .i64 yT, .int .u64 (yN : Int), .string ⟨yS.toArray⟩] 35) (by simp)).2
  clear HC2
  clear r0 r1 r2 r3 r4 r5 rz lr
  go_upto_region 3 with fail
  have R3 : RL own W m a nb tp [(w2.heap.size, .cells #[.int .i64 4, .int .i64 1, .int .i64 0, .int .i64 0, .int .u64 0, .string ⟨#[]⟩, .int .i64 0, .int .u64 0, .string ⟨#[]⟩] 85), (b0, .cells #[.int .i64 xT, .int .u64 (xN : Int), .string ⟨xS.toArray⟩, .int .i64 yT, .int .u64 (yN : Int), .string ⟨yS.toArray⟩] 35)] M2 (w2.alloc (.cells #[.int .i64 4, .int .i64 1, .int .i64 0, .int .i64 0, .int .u64 0, .string ⟨#[]⟩, .int .i64 0, .int .u64 0, .string ⟨#[]⟩] 85)) := R2.alloc _ rfl
  generalize w2.alloc (.cells #[.int .i64 4, .int .i64 1, .int .i64 0, .int .i64 0, .int .u64 0, .string ⟨#[]⟩, .int .i64 0, .int .u64 0, .string ⟨#[]⟩] 85) = w3 at *
  generalize w2.heap.size = b1 at *
  have HD : Hid (b0 < b1) := hne
  clear R2 hne
  obtain ⟨e0, e1, e2, e3, e4, e5, e6, e7, e8, ez⟩ := cells9 (R3.box (b := b1) (o := .cells #[.int .i64 4, .int .i64 1, .int .i64 0, .int .i64 0, .int .u64 0, .string ⟨#[]⟩, .int .i64 0, .int .u64 0, .string ⟨#[]⟩] 85) (by simp)).1
  have le := (R3.box (b := b1) (o := .cells #[.int .i64 4, .int .i64 1, .int .i64 0, .int .i64 0, .int .u64 0, .string ⟨#[]⟩, .int .i64 0, .int .u64 0, .string ⟨#[]⟩] 85) (by simp)).2
  obtain ⟨r0, r1, r2, r3, r4, r5, rz⟩ := cells6 (R3.box (b := b0) (o := .cells #[.int .i64 xT, .int .u64 (xN : Int), .string ⟨xS.toArray⟩, .int .i64 yT, .int .u64 (yN : Int), .string ⟨yS.toArray⟩] 35) (by simp)).1
  have lr := (R3.box (b := b0) (o := .cells #[.int .i64 xT, .int .u64 (xN : Int), .string ⟨xS.toArray⟩, .int .i64 yT, .int .u64 (yN : Int), .string ⟨yS.toArray⟩] 35) (by simp)).2
  have HC3 := R3.exec HK2.out 1 ⟨xT, xN, xS⟩ ⟨yT, yN, yS⟩ HOK.out.1 HOK.out.2
  rw [HP.out.1] at HC3
  have HC3 : Calls Tryz.prog 37 #[.pointer (some ⟨m, 0, none⟩), .int .i64 1, .agg #[.int .i64 xT, .int .u64 (xN : Int), .string ⟨xS.toArray⟩], .agg #[.int .i64 yT, .int .u64 (yN : Int), .string ⟨yS.toArray⟩]] w3 fun e w' => e = .returned (.agg #[.int .i64 3, .int .i64 0, .int .i64 0, .int .i64 xT, .int .u64 (xN : Int), .string ⟨xS.toArray⟩, .int .i64 0, .int .u64 0, .string ⟨#[]⟩]) ∧ RL own W m a nb tp [(b1, .cells #[.int .i64 4, .int .i64 1, .int .i64 0, .int .i64 0, .int .u64 0, .string ⟨#[]⟩, .int .i64 0, .int .u64 0, .string ⟨#[]⟩] 85), (b0, .cells #[.int .i64 xT, .int .u64 (xN : Int), .string ⟨xS.toArray⟩, .int .i64 yT, .int .u64 (yN : Int), .string ⟨yS.toArray⟩] 35)] M3 w' := HC3
  clear R3
  go_wp2_with fail
  refine HC3.mono ?_; rintro e w4 ⟨rfl, R4⟩
  clear HC3
  clear e0 e1 e2 e3 e4 e5 e6 e7 e8 ez le r0 r1 r2 r3 r4 r5 rz lr
  obtain ⟨e0, e1, e2, e3, e4, e5, e6, e7, e8, ez⟩ := cells9 (R4.box (b := b1) (o := .cells #[.int .i64 4, .int .i64 1, .int .i64 0, .int .i64 0, .int .u64 0, .string ⟨#[]⟩, .int .i64 0, .int .u64 0, .string ⟨#[]⟩] 85) (by simp)).1
  have le := (R4.box (b := b1) (o := .cells #[.int .i64 4, .int .i64 1, .int .i64 0, .int .i64 0, .int .u64 0, .string ⟨#[]⟩, .int .i64 0, .int .u64 0, .string ⟨#[]⟩] 85) (by simp)).2
  obtain ⟨r0, r1, r2, r3, r4, r5, rz⟩ := cells6 (R4.box (b := b0) (o := .cells #[.int .i64 xT, .int .u64 (xN : Int), .string ⟨xS.toArray⟩, .int .i64 yT, .int .u64 (yN : Int), .string ⟨yS.toArray⟩] 35) (by simp)).1
  have lr := (R4.box (b := b0) (o := .cells #[.int .i64 xT, .int .u64 (xN : Int), .string ⟨xS.toArray⟩, .int .i64 yT, .int .u64 (yN : Int), .string ⟨yS.toArray⟩] 35) (by simp)).2
  have R5 : RL own W m a nb tp [(b1, .cells #[.int .i64 3, .int .i64 0, .int .i64 0, .int .i64 xT, .int .u64 (xN : Int), .string ⟨xS.toArray⟩, .int .i64 0, .int .u64 0, .string ⟨#[]⟩] 85), (b0, .cells #[.int .i64 xT, .int .u64 (xN : Int), .string ⟨xS.toArray⟩, .int .i64 yT, .int .u64 (yN : Int), .string ⟨yS.toArray⟩] 35)] M3 (((((((((w4.setCell ⟨b1, 0, none⟩ (.int .i64 3)).setCell ⟨b1, 1, none⟩ (.int .i64 0)).setCell ⟨b1, 2, none⟩ (.int .i64 0)).setCell ⟨b1, 3, none⟩ (.int .i64 xT)).setCell ⟨b1, 4, none⟩ (.int .u64 (xN : Int))).setCell ⟨b1, 5, none⟩ (.string ⟨xS.toArray⟩)).setCell ⟨b1, 6, none⟩ (.int .i64 0)).setCell ⟨b1, 7, none⟩ (.int .u64 0)).setCell ⟨b1, 8, none⟩ (.string ⟨#[]⟩)) := R4.setE (n := b1) (by first | exact List.mem_cons_self | exact List.mem_cons_of_mem _ List.mem_cons_self) (B' := [(b0, .cells #[.int .i64 xT, .int .u64 (xN : Int), .string ⟨xS.toArray⟩, .int .i64 yT, .int .u64 (yN : Int), .string ⟨yS.toArray⟩] 35)]) (fun p hp => by
    have hd := HD.out
    rw [List.mem_singleton] at hp
    subst hp
    exact ⟨by simp, by show b0 ≠ b1; omega⟩) (.int .i64 3) (.int .i64 0) (.int .i64 0) (.int .i64 xT) (.int .u64 (xN : Int)) (.string ⟨xS.toArray⟩) (.int .i64 0) (.int .u64 0) (.string ⟨#[]⟩)
  clear R4
  go_upto_region 6 with fail
  clear e0 e1 e2 e3 e4 e5 e6 e7 e8 ez le r0 r1 r2 r3 r4 r5 rz lr
  generalize (((((((((w4.setCell ⟨b1, 0, none⟩ (.int .i64 3)).setCell ⟨b1, 1, none⟩ (.int .i64 0)).setCell ⟨b1, 2, none⟩ (.int .i64 0)).setCell ⟨b1, 3, none⟩ (.int .i64 xT)).setCell ⟨b1, 4, none⟩ (.int .u64 (xN : Int))).setCell ⟨b1, 5, none⟩ (.string ⟨xS.toArray⟩)).setCell ⟨b1, 6, none⟩ (.int .i64 0)).setCell ⟨b1, 7, none⟩ (.int .u64 0)).setCell ⟨b1, 8, none⟩ (.string ⟨#[]⟩)) = w5 at *
  obtain ⟨e0, e1, e2, e3, e4, e5, e6, e7, e8, ez⟩ := cells9 (R5.box (b := b1) (o := .cells #[.int .i64 3, .int .i64 0, .int .i64 0, .int .i64 xT, .int .u64 (xN : Int), .string ⟨xS.toArray⟩, .int .i64 0, .int .u64 0, .string ⟨#[]⟩] 85) (by simp)).1
  have le := (R5.box (b := b1) (o := .cells #[.int .i64 3, .int .i64 0, .int .i64 0, .int .i64 xT, .int .u64 (xN : Int), .string ⟨xS.toArray⟩, .int .i64 0, .int .u64 0, .string ⟨#[]⟩] 85) (by simp)).2
  obtain ⟨r0, r1, r2, r3, r4, r5, rz⟩ := cells6 (R5.box (b := b0) (o := .cells #[.int .i64 xT, .int .u64 (xN : Int), .string ⟨xS.toArray⟩, .int .i64 yT, .int .u64 (yN : Int), .string ⟨yS.toArray⟩] 35) (by simp)).1
  have lr := (R5.box (b := b0) (o := .cells #[.int .i64 xT, .int .u64 (xN : Int), .string ⟨xS.toArray⟩, .int .i64 yT, .int .u64 (yN : Int), .string ⟨yS.toArray⟩] 35) (by simp)).2
  go_wp2_with fail
  refine (HFX.out _).mono ?_; rintro e w6 ⟨rfl, hb6⟩
  have R6 := R5.below hb6
  clear R5 hb6
  clear e0 e1 e2 e3 e4 e5 e6 e7 e8 ez le r0 r1 r2 r3 r4 r5 rz lr
  obtain ⟨e0, e1, e2, e3, e4, e5, e6, e7, e8, ez⟩ := cells9 (R6.box (b := b1) (o := .cells #[.int .i64 3, .int .i64 0, .int .i64 0, .int .i64 xT, .int .u64 (xN : Int), .string ⟨xS.toArray⟩, .int .i64 0, .int .u64 0, .string ⟨#[]⟩] 85) (by simp)).1
  have le := (R6.box (b := b1) (o := .cells #[.int .i64 3, .int .i64 0, .int .i64 0, .int .i64 xT, .int .u64 (xN : Int), .string ⟨xS.toArray⟩, .int .i64 0, .int .u64 0, .string ⟨#[]⟩] 85) (by simp)).2
  obtain ⟨r0, r1, r2, r3, r4, r5, rz⟩ := cells6 (R6.box (b := b0) (o := .cells #[.int .i64 xT, .int .u64 (xN : Int), .string ⟨xS.toArray⟩, .int .i64 yT, .int .u64 (yN : Int), .string ⟨yS.toArray⟩] 35) (by simp)).1
  have lr := (R6.box (b := b0) (o := .cells #[.int .i64 xT, .int .u64 (xN : Int), .string ⟨xS.toArray⟩, .int .i64 yT, .int .u64 (yN : Int), .string ⟨yS.toArray⟩] 35) (by simp)).2
  go_wp2_with fail
  refine (HFY.out _).mono ?_; rintro e w7 ⟨rfl, hb7⟩
  have R7 := R6.below hb7
  clear R6 hb7
  clear e0 e1 e2 e3 e4 e5 e6 e7 e8 ez le r0 r1 r2 r3 r4 r5 rz lr
  obtain ⟨e0, e1, e2, e3, e4, e5, e6, e7, e8, ez⟩ := cells9 (R7.box (b := b1) (o := .cells #[.int .i64 3, .int .i64 0, .int .i64 0, .int .i64 xT, .int .u64 (xN : Int), .string ⟨xS.toArray⟩, .int .i64 0, .int .u64 0, .string ⟨#[]⟩] 85) (by simp)).1
  have le := (R7.box (b := b1) (o := .cells #[.int .i64 3, .int .i64 0, .int .i64 0, .int .i64 xT, .int .u64 (xN : Int), .string ⟨xS.toArray⟩, .int .i64 0, .int .u64 0, .string ⟨#[]⟩] 85) (by simp)).2
  obtain ⟨r0, r1, r2, r3, r4, r5, rz⟩ := cells6 (R7.box (b := b0) (o := .cells #[.int .i64 xT, .int .u64 (xN : Int), .string ⟨xS.toArray⟩, .int .i64 yT, .int .u64 (yN : Int), .string ⟨yS.toArray⟩] 35) (by simp)).1
  have lr := (R7.box (b := b0) (o := .cells #[.int .i64 xT, .int .u64 (xN : Int), .string ⟨xS.toArray⟩, .int .i64 yT, .int .u64 (yN : Int), .string ⟨yS.toArray⟩] 35) (by simp)).2
  have HC4 := R7.exec HK.out.1 1 ⟨yT, yN, yS⟩ ⟨xT, xN, xS⟩ HOK.out.2 HOK.out.1
  rw [HP.out.2.1] at HC4
  have HC4 : Calls Tryz.prog 37 #[.pointer (some ⟨m, 0, none⟩), .int .i64 1, .agg #[.int .i64 yT, .int .u64 (yN : Int), .string ⟨yS.toArray⟩], .agg #[.int .i64 xT, .int .u64 (xN : Int), .string ⟨xS.toArray⟩]] w7 fun e w' => e = .returned (.agg #[.int .i64 1, .int .i64 0, .int .i64 0, .int .i64 1, .int .u64 1, .string ⟨#[]⟩, .int .i64 yT, .int .u64 (yN : Int), .string ⟨yS.toArray⟩]) ∧ RL own W m a nb tp [(b1, .cells #[.int .i64 3, .int .i64 0, .int .i64 0, .int .i64 xT, .int .u64 (xN : Int), .string ⟨xS.toArray⟩, .int .i64 0, .int .u64 0, .string ⟨#[]⟩] 85), (b0, .cells #[.int .i64 xT, .int .u64 (xN : Int), .string ⟨xS.toArray⟩, .int .i64 yT, .int .u64 (yN : Int), .string ⟨yS.toArray⟩] 35)] M4 w' := HC4
  clear R7
  go_wp2_with fail
  refine HC4.mono ?_; rintro e w8 ⟨rfl, R8⟩
  clear HC4
  clear e0 e1 e2 e3 e4 e5 e6 e7 e8 ez le r0 r1 r2 r3 r4 r5 rz lr
  obtain ⟨e0, e1, e2, e3, e4, e5, e6, e7, e8, ez⟩ := cells9 (R8.box (b := b1) (o := .cells #[.int .i64 3, .int .i64 0, .int .i64 0, .int .i64 xT, .int .u64 (xN : Int), .string ⟨xS.toArray⟩, .int .i64 0, .int .u64 0, .string ⟨#[]⟩] 85) (by simp)).1
  have le := (R8.box (b := b1) (o := .cells #[.int .i64 3, .int .i64 0, .int .i64 0, .int .i64 xT, .int .u64 (xN : Int), .string ⟨xS.toArray⟩, .int .i64 0, .int .u64 0, .string ⟨#[]⟩] 85) (by simp)).2
  obtain ⟨r0, r1, r2, r3, r4, r5, rz⟩ := cells6 (R8.box (b := b0) (o := .cells #[.int .i64 xT, .int .u64 (xN : Int), .string ⟨xS.toArray⟩, .int .i64 yT, .int .u64 (yN : Int), .string ⟨yS.toArray⟩] 35) (by simp)).1
  have lr := (R8.box (b := b0) (o := .cells #[.int .i64 xT, .int .u64 (xN : Int), .string ⟨xS.toArray⟩, .int .i64 yT, .int .u64 (yN : Int), .string ⟨yS.toArray⟩] 35) (by simp)).2
  have R9 : RL own W m a nb tp [(b1, .cells #[.int .i64 1, .int .i64 0, .int .i64 0, .int .i64 1, .int .u64 1, .string ⟨#[]⟩, .int .i64 yT, .int .u64 (yN : Int), .string ⟨yS.toArray⟩] 85), (b0, .cells #[.int .i64 xT, .int .u64 (xN : Int), .string ⟨xS.toArray⟩, .int .i64 yT, .int .u64 (yN : Int), .string ⟨yS.toArray⟩] 35)] M4 (((((((((w8.setCell ⟨b1, 0, none⟩ (.int .i64 1)).setCell ⟨b1, 1, none⟩ (.int .i64 0)).setCell ⟨b1, 2, none⟩ (.int .i64 0)).setCell ⟨b1, 3, none⟩ (.int .i64 1)).setCell ⟨b1, 4, none⟩ (.int .u64 1)).setCell ⟨b1, 5, none⟩ (.string ⟨#[]⟩)).setCell ⟨b1, 6, none⟩ (.int .i64 yT)).setCell ⟨b1, 7, none⟩ (.int .u64 (yN : Int))).setCell ⟨b1, 8, none⟩ (.string ⟨yS.toArray⟩)) := R8.setE (n := b1) (by first | exact List.mem_cons_self | exact List.mem_cons_of_mem _ List.mem_cons_self) (B' := [(b0, .cells #[.int .i64 xT, .int .u64 (xN : Int), .string ⟨xS.toArray⟩, .int .i64 yT, .int .u64 (yN : Int), .string ⟨yS.toArray⟩] 35)]) (fun p hp => by
    have hd := HD.out
    rw [List.mem_singleton] at hp
    subst hp
    exact ⟨by simp, by show b0 ≠ b1; omega⟩) (.int .i64 1) (.int .i64 0) (.int .i64 0) (.int .i64 1) (.int .u64 1) (.string ⟨#[]⟩) (.int .i64 yT) (.int .u64 (yN : Int)) (.string ⟨yS.toArray⟩)
  clear R8
  go_upto_region 13 with fail
  clear e0 e1 e2 e3 e4 e5 e6 e7 e8 ez le r0 r1 r2 r3 r4 r5 rz lr
  generalize (((((((((w8.setCell ⟨b1, 0, none⟩ (.int .i64 1)).setCell ⟨b1, 1, none⟩ (.int .i64 0)).setCell ⟨b1, 2, none⟩ (.int .i64 0)).setCell ⟨b1, 3, none⟩ (.int .i64 1)).setCell ⟨b1, 4, none⟩ (.int .u64 1)).setCell ⟨b1, 5, none⟩ (.string ⟨#[]⟩)).setCell ⟨b1, 6, none⟩ (.int .i64 yT)).setCell ⟨b1, 7, none⟩ (.int .u64 (yN : Int))).setCell ⟨b1, 8, none⟩ (.string ⟨yS.toArray⟩)) = w9 at *
  obtain ⟨e0, e1, e2, e3, e4, e5, e6, e7, e8, ez⟩ := cells9 (R9.box (b := b1) (o := .cells #[.int .i64 1, .int .i64 0, .int .i64 0, .int .i64 1, .int .u64 1, .string ⟨#[]⟩, .int .i64 yT, .int .u64 (yN : Int), .string ⟨yS.toArray⟩] 85) (by simp)).1
  have le := (R9.box (b := b1) (o := .cells #[.int .i64 1, .int .i64 0, .int .i64 0, .int .i64 1, .int .u64 1, .string ⟨#[]⟩, .int .i64 yT, .int .u64 (yN : Int), .string ⟨yS.toArray⟩] 85) (by simp)).2
  obtain ⟨r0, r1, r2, r3, r4, r5, rz⟩ := cells6 (R9.box (b := b0) (o := .cells #[.int .i64 xT, .int .u64 (xN : Int), .string ⟨xS.toArray⟩, .int .i64 yT, .int .u64 (yN : Int), .string ⟨yS.toArray⟩] 35) (by simp)).1
  have lr := (R9.box (b := b0) (o := .cells #[.int .i64 xT, .int .u64 (xN : Int), .string ⟨xS.toArray⟩, .int .i64 yT, .int .u64 (yN : Int), .string ⟨yS.toArray⟩] 35) (by simp)).2
  go_wp2_with fail
  refine (HTY.out _).mono ?_; rintro e w10 ⟨rfl, hb10⟩
  have R10 := R9.below hb10
  clear R9 hb10
  clear e0 e1 e2 e3 e4 e5 e6 e7 e8 ez le r0 r1 r2 r3 r4 r5 rz lr
  have HBO : Calls Tryz.prog 40 #[.bool true] w10 fun e w' => e = .returned (.agg #[.int .i64 1, .int .u64 1, .string ⟨#[]⟩]) ∧ Below w10.heap.size w10 w' := bool_any true w10
  go_wp2_with fail
  refine HBO.mono ?_; rintro e w11 ⟨rfl, hb11⟩
  have R11 := R10.below hb11
  have hne : b1 < w11.heap.size := (R11.box (b := b1) (o := .cells #[.int .i64 1, .int .i64 0, .int .i64 0, .int .i64 1, .int .u64 1, .string ⟨#[]⟩, .int .i64 yT, .int .u64 (yN : Int), .string ⟨yS.toArray⟩] 85) (by simp)).2
  clear R10 hb11 HBO
  go_upto_region 15 with fail
  have R12 : RL own W m a nb tp [(w11.heap.size, .cells #[.int .i64 1, .int .u64 1, .string ⟨#[]⟩] 33), (b1, .cells #[.int .i64 1, .int .i64 0, .int .i64 0, .int .i64 1, .int .u64 1, .string ⟨#[]⟩, .int .i64 yT, .int .u64 (yN : Int), .string ⟨yS.toArray⟩] 85), (b0, .cells #[.int .i64 xT, .int .u64 (xN : Int), .string ⟨xS.toArray⟩, .int .i64 yT, .int .u64 (yN : Int), .string ⟨yS.toArray⟩] 35)] M4 (w11.alloc (.cells #[.int .i64 1, .int .u64 1, .string ⟨#[]⟩] 33)) := R11.alloc _ rfl
  generalize w11.alloc (.cells #[.int .i64 1, .int .u64 1, .string ⟨#[]⟩] 33) = w12 at *
  generalize w11.heap.size = b2 at *
  have HD : Hid (b0 < b1 ∧ b1 < b2) := ⟨HD.out, hne⟩
  clear R11 hne
  obtain ⟨c0, c1, c2, cz⟩ := cells3 (R12.box (b := b2) (o := .cells #[.int .i64 1, .int .u64 1, .string ⟨#[]⟩] 33) (by simp)).1
  have lc := (R12.box (b := b2) (o := .cells #[.int .i64 1, .int .u64 1, .string ⟨#[]⟩] 33) (by simp)).2
  obtain ⟨e0, e1, e2, e3, e4, e5, e6, e7, e8, ez⟩ := cells9 (R12.box (b := b1) (o := .cells #[.int .i64 1, .int .i64 0, .int .i64 0, .int .i64 1, .int .u64 1, .string ⟨#[]⟩, .int .i64 yT, .int .u64 (yN : Int), .string ⟨yS.toArray⟩] 85) (by simp)).1
  have le := (R12.box (b := b1) (o := .cells #[.int .i64 1, .int .i64 0, .int .i64 0, .int .i64 1, .int .u64 1, .string ⟨#[]⟩, .int .i64 yT, .int .u64 (yN : Int), .string ⟨yS.toArray⟩] 85) (by simp)).2
  obtain ⟨r0, r1, r2, r3, r4, r5, rz⟩ := cells6 (R12.box (b := b0) (o := .cells #[.int .i64 xT, .int .u64 (xN : Int), .string ⟨xS.toArray⟩, .int .i64 yT, .int .u64 (yN : Int), .string ⟨yS.toArray⟩] 35) (by simp)).1
  have lr := (R12.box (b := b0) (o := .cells #[.int .i64 xT, .int .u64 (xN : Int), .string ⟨xS.toArray⟩, .int .i64 yT, .int .u64 (yN : Int), .string ⟨yS.toArray⟩] 35) (by simp)).2
  have HC5 := R12.exec HK.out.2 0 ⟨xT, xN, xS⟩ ⟨yT, yN, yS⟩ HOK.out.1 HOK.out.2
  rw [HP.out.2.2.1, HP.out.2.2.2.2] at HC5
  have HC5 : Calls Tryz.prog 37 #[.pointer (some ⟨m, 0, none⟩), .int .i64 0, .agg #[.int .i64 xT, .int .u64 (xN : Int), .string ⟨xS.toArray⟩], .agg #[.int .i64 yT, .int .u64 (yN : Int), .string ⟨yS.toArray⟩]] w12 fun e w' => e = .returned (.agg #[.int .i64 1, .int .i64 0, .int .i64 0, .int .i64 xT, .int .u64 (xN : Int), .string ⟨xS.toArray⟩, .int .i64 1, .int .u64 1, .string ⟨#[]⟩]) ∧ RL own W m a nb tp [(b2, .cells #[.int .i64 1, .int .u64 1, .string ⟨#[]⟩] 33), (b1, .cells #[.int .i64 1, .int .i64 0, .int .i64 0, .int .i64 1, .int .u64 1, .string ⟨#[]⟩, .int .i64 yT, .int .u64 (yN : Int), .string ⟨yS.toArray⟩] 85), (b0, .cells #[.int .i64 xT, .int .u64 (xN : Int), .string ⟨xS.toArray⟩, .int .i64 yT, .int .u64 (yN : Int), .string ⟨yS.toArray⟩] 35)] M5 w' := HC5
  clear R12
  go_wp2_with fail
  refine HC5.mono ?_; rintro e w13 ⟨rfl, R13⟩
  clear HC5
  clear c0 c1 c2 cz lc e0 e1 e2 e3 e4 e5 e6 e7 e8 ez le r0 r1 r2 r3 r4 r5 rz lr
  obtain ⟨c0, c1, c2, cz⟩ := cells3 (R13.box (b := b2) (o := .cells #[.int .i64 1, .int .u64 1, .string ⟨#[]⟩] 33) (by simp)).1
  have lc := (R13.box (b := b2) (o := .cells #[.int .i64 1, .int .u64 1, .string ⟨#[]⟩] 33) (by simp)).2
  obtain ⟨e0, e1, e2, e3, e4, e5, e6, e7, e8, ez⟩ := cells9 (R13.box (b := b1) (o := .cells #[.int .i64 1, .int .i64 0, .int .i64 0, .int .i64 1, .int .u64 1, .string ⟨#[]⟩, .int .i64 yT, .int .u64 (yN : Int), .string ⟨yS.toArray⟩] 85) (by simp)).1
  have le := (R13.box (b := b1) (o := .cells #[.int .i64 1, .int .i64 0, .int .i64 0, .int .i64 1, .int .u64 1, .string ⟨#[]⟩, .int .i64 yT, .int .u64 (yN : Int), .string ⟨yS.toArray⟩] 85) (by simp)).2
  obtain ⟨r0, r1, r2, r3, r4, r5, rz⟩ := cells6 (R13.box (b := b0) (o := .cells #[.int .i64 xT, .int .u64 (xN : Int), .string ⟨xS.toArray⟩, .int .i64 yT, .int .u64 (yN : Int), .string ⟨yS.toArray⟩] 35) (by simp)).1
  have lr := (R13.box (b := b0) (o := .cells #[.int .i64 xT, .int .u64 (xN : Int), .string ⟨xS.toArray⟩, .int .i64 yT, .int .u64 (yN : Int), .string ⟨yS.toArray⟩] 35) (by simp)).2
  have R14 : RL own W m a nb tp [(b1, .cells #[.int .i64 1, .int .i64 0, .int .i64 0, .int .i64 xT, .int .u64 (xN : Int), .string ⟨xS.toArray⟩, .int .i64 1, .int .u64 1, .string ⟨#[]⟩] 85), (b2, .cells #[.int .i64 1, .int .u64 1, .string ⟨#[]⟩] 33), (b0, .cells #[.int .i64 xT, .int .u64 (xN : Int), .string ⟨xS.toArray⟩, .int .i64 yT, .int .u64 (yN : Int), .string ⟨yS.toArray⟩] 35)] M5 (((((((((w13.setCell ⟨b1, 0, none⟩ (.int .i64 1)).setCell ⟨b1, 1, none⟩ (.int .i64 0)).setCell ⟨b1, 2, none⟩ (.int .i64 0)).setCell ⟨b1, 3, none⟩ (.int .i64 xT)).setCell ⟨b1, 4, none⟩ (.int .u64 (xN : Int))).setCell ⟨b1, 5, none⟩ (.string ⟨xS.toArray⟩)).setCell ⟨b1, 6, none⟩ (.int .i64 1)).setCell ⟨b1, 7, none⟩ (.int .u64 1)).setCell ⟨b1, 8, none⟩ (.string ⟨#[]⟩)) := R13.setE (n := b1) (by first | exact List.mem_cons_self | exact List.mem_cons_of_mem _ List.mem_cons_self) (B' := [(b2, .cells #[.int .i64 1, .int .u64 1, .string ⟨#[]⟩] 33), (b0, .cells #[.int .i64 xT, .int .u64 (xN : Int), .string ⟨xS.toArray⟩, .int .i64 yT, .int .u64 (yN : Int), .string ⟨yS.toArray⟩] 35)]) (fun p hp => by
    simp only [List.mem_cons, List.not_mem_nil, or_false] at hp
    have hd := HD.out
    rcases hp with rfl | rfl
    · exact ⟨by simp, by show b2 ≠ b1; omega⟩
    · exact ⟨by simp, by show b0 ≠ b1; omega⟩
    ) (.int .i64 1) (.int .i64 0) (.int .i64 0) (.int .i64 xT) (.int .u64 (xN : Int)) (.string ⟨xS.toArray⟩) (.int .i64 1) (.int .u64 1) (.string ⟨#[]⟩)
  clear R13
  go_upto_region 18 with fail
  clear c0 c1 c2 cz lc e0 e1 e2 e3 e4 e5 e6 e7 e8 ez le r0 r1 r2 r3 r4 r5 rz lr
  generalize (((((((((w13.setCell ⟨b1, 0, none⟩ (.int .i64 1)).setCell ⟨b1, 1, none⟩ (.int .i64 0)).setCell ⟨b1, 2, none⟩ (.int .i64 0)).setCell ⟨b1, 3, none⟩ (.int .i64 xT)).setCell ⟨b1, 4, none⟩ (.int .u64 (xN : Int))).setCell ⟨b1, 5, none⟩ (.string ⟨xS.toArray⟩)).setCell ⟨b1, 6, none⟩ (.int .i64 1)).setCell ⟨b1, 7, none⟩ (.int .u64 1)).setCell ⟨b1, 8, none⟩ (.string ⟨#[]⟩)) = w14 at *
  obtain ⟨e0, e1, e2, e3, e4, e5, e6, e7, e8, ez⟩ := cells9 (R14.box (b := b1) (o := .cells #[.int .i64 1, .int .i64 0, .int .i64 0, .int .i64 xT, .int .u64 (xN : Int), .string ⟨xS.toArray⟩, .int .i64 1, .int .u64 1, .string ⟨#[]⟩] 85) (by simp)).1
  have le := (R14.box (b := b1) (o := .cells #[.int .i64 1, .int .i64 0, .int .i64 0, .int .i64 xT, .int .u64 (xN : Int), .string ⟨xS.toArray⟩, .int .i64 1, .int .u64 1, .string ⟨#[]⟩] 85) (by simp)).2
  obtain ⟨c0, c1, c2, cz⟩ := cells3 (R14.box (b := b2) (o := .cells #[.int .i64 1, .int .u64 1, .string ⟨#[]⟩] 33) (by simp)).1
  have lc := (R14.box (b := b2) (o := .cells #[.int .i64 1, .int .u64 1, .string ⟨#[]⟩] 33) (by simp)).2
  obtain ⟨r0, r1, r2, r3, r4, r5, rz⟩ := cells6 (R14.box (b := b0) (o := .cells #[.int .i64 xT, .int .u64 (xN : Int), .string ⟨xS.toArray⟩, .int .i64 yT, .int .u64 (yN : Int), .string ⟨yS.toArray⟩] 35) (by simp)).1
  have lr := (R14.box (b := b0) (o := .cells #[.int .i64 xT, .int .u64 (xN : Int), .string ⟨xS.toArray⟩, .int .i64 yT, .int .u64 (yN : Int), .string ⟨yS.toArray⟩] 35) (by simp)).2
  have hne : b2 < w14.heap.size := (R14.box (b := b2) (o := .cells #[.int .i64 1, .int .u64 1, .string ⟨#[]⟩] 33) (by simp)).2
  go_upto_region 19 with fail
  clear c0 c1 c2 cz lc e0 e1 e2 e3 e4 e5 e6 e7 e8 ez le r0 r1 r2 r3 r4 r5 rz lr
  have R15 : RL own W m a nb tp [(w14.heap.size, .cells #[.int .i64 xT, .int .u64 (xN : Int), .string ⟨xS.toArray⟩] 33), (b1, .cells #[.int .i64 1, .int .i64 0, .int .i64 0, .int .i64 xT, .int .u64 (xN : Int), .string ⟨xS.toArray⟩, .int .i64 1, .int .u64 1, .string ⟨#[]⟩] 85), (b2, .cells #[.int .i64 1, .int .u64 1, .string ⟨#[]⟩] 33), (b0, .cells #[.int .i64 xT, .int .u64 (xN : Int), .string ⟨xS.toArray⟩, .int .i64 yT, .int .u64 (yN : Int), .string ⟨yS.toArray⟩] 35)] M5 (w14.alloc (.cells #[.int .i64 xT, .int .u64 (xN : Int), .string ⟨xS.toArray⟩] 33)) := R14.alloc _ rfl
  generalize w14.alloc (.cells #[.int .i64 xT, .int .u64 (xN : Int), .string ⟨xS.toArray⟩] 33) = w15 at *
  generalize w14.heap.size = b3 at *
  have HD : Hid (b0 < b1 ∧ b1 < b2 ∧ b2 < b3) := ⟨HD.out.1, HD.out.2, hne⟩
  clear R14 hne
  obtain ⟨n0, n1, n2, nz⟩ := cells3 (R15.box (b := b3) (o := .cells #[.int .i64 xT, .int .u64 (xN : Int), .string ⟨xS.toArray⟩] 33) (by simp)).1
  have ln := (R15.box (b := b3) (o := .cells #[.int .i64 xT, .int .u64 (xN : Int), .string ⟨xS.toArray⟩] 33) (by simp)).2
  obtain ⟨e0, e1, e2, e3, e4, e5, e6, e7, e8, ez⟩ := cells9 (R15.box (b := b1) (o := .cells #[.int .i64 1, .int .i64 0, .int .i64 0, .int .i64 xT, .int .u64 (xN : Int), .string ⟨xS.toArray⟩, .int .i64 1, .int .u64 1, .string ⟨#[]⟩] 85) (by simp)).1
  have le := (R15.box (b := b1) (o := .cells #[.int .i64 1, .int .i64 0, .int .i64 0, .int .i64 xT, .int .u64 (xN : Int), .string ⟨xS.toArray⟩, .int .i64 1, .int .u64 1, .string ⟨#[]⟩] 85) (by simp)).2
  obtain ⟨c0, c1, c2, cz⟩ := cells3 (R15.box (b := b2) (o := .cells #[.int .i64 1, .int .u64 1, .string ⟨#[]⟩] 33) (by simp)).1
  have lc := (R15.box (b := b2) (o := .cells #[.int .i64 1, .int .u64 1, .string ⟨#[]⟩] 33) (by simp)).2
  obtain ⟨r0, r1, r2, r3, r4, r5, rz⟩ := cells6 (R15.box (b := b0) (o := .cells #[.int .i64 xT, .int .u64 (xN : Int), .string ⟨xS.toArray⟩, .int .i64 yT, .int .u64 (yN : Int), .string ⟨yS.toArray⟩] 35) (by simp)).1
  have lr := (R15.box (b := b0) (o := .cells #[.int .i64 xT, .int .u64 (xN : Int), .string ⟨xS.toArray⟩, .int .i64 yT, .int .u64 (yN : Int), .string ⟨yS.toArray⟩] 35) (by simp)).2
  go_wp2_with fail
  refine (HTX.out _).mono ?_; rintro e w16 ⟨rfl, hb16⟩
  have R16 := R15.below hb16
  clear R15 hb16
  clear n0 n1 n2 nz ln e0 e1 e2 e3 e4 e5 e6 e7 e8 ez le c0 c1 c2 cz lc r0 r1 r2 r3 r4 r5 rz lr
  obtain ⟨n0, n1, n2, nz⟩ := cells3 (R16.box (b := b3) (o := .cells #[.int .i64 xT, .int .u64 (xN : Int), .string ⟨xS.toArray⟩] 33) (by simp)).1
  have ln := (R16.box (b := b3) (o := .cells #[.int .i64 xT, .int .u64 (xN : Int), .string ⟨xS.toArray⟩] 33) (by simp)).2
  obtain ⟨e0, e1, e2, e3, e4, e5, e6, e7, e8, ez⟩ := cells9 (R16.box (b := b1) (o := .cells #[.int .i64 1, .int .i64 0, .int .i64 0, .int .i64 xT, .int .u64 (xN : Int), .string ⟨xS.toArray⟩, .int .i64 1, .int .u64 1, .string ⟨#[]⟩] 85) (by simp)).1
  have le := (R16.box (b := b1) (o := .cells #[.int .i64 1, .int .i64 0, .int .i64 0, .int .i64 xT, .int .u64 (xN : Int), .string ⟨xS.toArray⟩, .int .i64 1, .int .u64 1, .string ⟨#[]⟩] 85) (by simp)).2
  obtain ⟨c0, c1, c2, cz⟩ := cells3 (R16.box (b := b2) (o := .cells #[.int .i64 1, .int .u64 1, .string ⟨#[]⟩] 33) (by simp)).1
  have lc := (R16.box (b := b2) (o := .cells #[.int .i64 1, .int .u64 1, .string ⟨#[]⟩] 33) (by simp)).2
  obtain ⟨r0, r1, r2, r3, r4, r5, rz⟩ := cells6 (R16.box (b := b0) (o := .cells #[.int .i64 xT, .int .u64 (xN : Int), .string ⟨xS.toArray⟩, .int .i64 yT, .int .u64 (yN : Int), .string ⟨yS.toArray⟩] 35) (by simp)).1
  have lr := (R16.box (b := b0) (o := .cells #[.int .i64 xT, .int .u64 (xN : Int), .string ⟨xS.toArray⟩, .int .i64 yT, .int .u64 (yN : Int), .string ⟨yS.toArray⟩] 35) (by simp)).2
  have HF := R16.fuel
  rw [HP.out.2.2.2.1] at HF
  have HF : Calls Tryz.prog 23 #[.pointer (some ⟨m, 0, none⟩)] w16 fun e w' => e = .returned (.int .i64 5) ∧ w' = w16 := HF
  have HNX : Hid (∃ M', Nx own W m a nb tp M' w16) := ⟨_, R16.nx⟩
  clear R16
  go_wp2_with fail
  refine HF.mono ?_; rintro e w18 ⟨rfl, hq⟩; have hq := hq.symm; subst hq
  clear HF
  go_wp2_with fail
  go_ret
  exact ⟨by simp, HNX.out⟩

set_option maxRecDepth 8000 in
set_option maxHeartbeats 1600000 in
theorem probe_g01 {own : Nat → Nat} {W : World} {m a nb tp : Nat} {M : Mc} (HV : Vm own W m a nb tp M) (x y : V) (hx : x.Ok) (hy : y.Ok) (hf : fitP x = true) (hg : fitP y = true) (hty : truthy y = false) (htx : truthy x = true) : Calls Tryz.prog 21 #[.pointer (some ⟨m, 0, none⟩), regV x y] W fun e w' => e = .returned (.bool true) ∧ ∃ M', Nx own W m a nb tp M' w' := by
  have P2 := play2 x y hf hg
  have P3 := play3 x y hf hg
  obtain ⟨P4, P5⟩ := play4 x y hf hg
  rw [hty] at P3 P5
  rw [htx] at P4
  have K3 : Rest (cM3 x) := by have h := (exec_ev cM2_rest 1 hx.N hy.N).2.2; rw [P2] at h; dsimp only at h; exact h
  have K4 : Rest (cM4 x y) := by have h := (exec_ev K3 1 hy.N hx.N).2.2; rw [P3] at h; dsimp only at h; exact h
  have HTX := fun w => truthy_any x w
  have HTY := fun w => truthy_any y w
  have HFX := fun w => fit_any x w hx
  have HFY := fun w => fit_any y w hy
  rw [hf] at HFX
  rw [hg] at HFY
  rw [htx] at HTX
  rw [hty] at HTY
  generalize cM3 x = M3 at *
  generalize cM4 x y = M4 at *
  generalize hM5 : (execP M4 0 x y).1 = M5 at P5
  obtain ⟨xT, xN, xS⟩ := x
  obtain ⟨yT, yN, yS⟩ := y
  have HTX : Hid (∀ w, Calls Tryz.prog 39 #[.agg #[.int .i64 xT, .int .u64 (xN : Int), .string ⟨xS.toArray⟩]] w fun e w' => e = .returned (.bool true) ∧ Below w.heap.size w w') := HTX
  have HTY : Hid (∀ w, Calls Tryz.prog 39 #[.agg #[.int .i64 yT, .int .u64 (yN : Int), .string ⟨yS.toArray⟩]] w fun e w' => e = .returned (.bool false) ∧ Below w.heap.size w w') := HTY
  have HFX : Hid (∀ w, Calls Tryz.prog 38 #[.agg #[.int .i64 xT, .int .u64 (xN : Int), .string ⟨xS.toArray⟩]] w fun e w' => e = .returned (.bool true) ∧ Below w.heap.size w w') := HFX
  have HFY : Hid (∀ w, Calls Tryz.prog 38 #[.agg #[.int .i64 yT, .int .u64 (yN : Int), .string ⟨yS.toArray⟩]] w fun e w' => e = .returned (.bool true) ∧ Below w.heap.size w w') := HFY
  have HOK : Hid ((⟨xT, xN, xS⟩ : V).Ok ∧ (⟨yT, yN, yS⟩ : V).Ok) := ⟨hx, hy⟩
  have HP : Hid (execP cM2 1 ⟨xT, xN, xS⟩ ⟨yT, yN, yS⟩ = (M3, ⟨3, 0, 0, ⟨xT, xN, xS⟩, nilV⟩) ∧ execP M3 1 ⟨yT, yN, yS⟩ ⟨xT, xN, xS⟩ = _ ∧ (execP M4 0 ⟨xT, xN, xS⟩ ⟨yT, yN, yS⟩).2 = _ ∧ M5.fuel = _ ∧ (execP M4 0 ⟨xT, xN, xS⟩ ⟨yT, yN, yS⟩).1 = M5) := ⟨P2, P3, P4, P5, hM5⟩
  have HK : Hid (Rest M3 ∧ Rest M4) := ⟨K3, K4⟩
  clear P2 P3 P4 P5 K3 K4 hty htx hf hg hx hy hM5
  have R0 := (RL.start HV).alloc (.cells #[.int .i64 xT, .int .u64 (xN : Int), .string ⟨xS.toArray⟩, .int .i64 yT, .int .u64 (yN : Int), .string ⟨yS.toArray⟩] 35) rfl
  have HC := R0.load catI 9 (by decide) ⟨by decide, by decide⟩
  rw [ca] at HC
  clear HV R0
  show Calls Tryz.prog 21 #[.pointer (some ⟨m, 0, none⟩), .agg #[.int .i64 xT, .int .u64 (xN : Int), .string ⟨xS.toArray⟩, .int .i64 yT, .int .u64 (yN : Int), .string ⟨yS.toArray⟩]] W _
  go_enter Tryz.func21, Tryz.ntmps21
  go_wp2_with fail
  refine HC.mono ?_; rintro e w1 ⟨rfl, R1⟩
  have HC2 := R1.exec (load_keeps catI 9 (by decide)) 0 nilV nilV nilOk2 nilOk2
  rw [cb] at HC2
  have HC2 : Calls Tryz.prog 37 #[.pointer (some ⟨m, 0, none⟩), .int .i64 0, .agg #[.int .i64 0, .int .u64 0, .string ⟨#[]⟩], .agg #[.int .i64 0, .int .u64 0, .string ⟨#[]⟩]] w1 fun e w' => e = .returned (.agg #[.int .i64 4, .int .i64 1, .int .i64 0, .int .i64 0, .int .u64 0, .string ⟨#[]⟩, .int .i64 0, .int .u64 0, .string ⟨#[]⟩]) ∧ RL own W m a nb tp [(W.heap.size, .cells #[.int .i64 xT, .int .u64 (xN : Int), .string ⟨xS.toArray⟩, .int .i64 yT, .int .u64 (yN : Int), .string ⟨yS.toArray⟩] 35)] cM2 w' := HC2
  have HK2 : Hid (Rest cM2) := cM2_rest
  generalize hM2 : cM2 = M2 at *
  clear hM2
  generalize hb0 : W.heap.size = b0 at *
  clear hb0
  obtain ⟨r0, r1, r2, r3, r4, r5, rz⟩ := cells6 (R1.box (b := b0) (o := .cells #[.int .i64 xT, .int .u64 (xN : Int), .string ⟨xS.toArray⟩, .int .i64 yT, .int .u64 (yN : Int), .string ⟨yS.toArray⟩] 35) (by simp)).1
  have lr := (R1.box (b := b0) (o := .cells #[.int .i64 xT, .int .u64 (xN : Int), .string ⟨xS.toArray⟩, .int .i64 yT, .int .u64 (yN : Int), .string ⟨yS.toArray⟩] 35) (by simp)).2
  clear R1 HC
  go_wp2_with fail
  refine HC2.mono ?_; rintro e w2 ⟨rfl, R2⟩
  have hne : b0 < w2.heap.size := (R2.box (b := b0) (o := .cells #[.int .i64 xT, .int .u64 (xN : Int), .string ⟨xS.toArray⟩, .int .i64 yT, .int .u64 (yN : Int), .string ⟨yS.toArray⟩] 35) (by simp)).2
  clear HC2
  clear r0 r1 r2 r3 r4 r5 rz lr
  go_upto_region 3 with fail
  have R3 : RL own W m a nb tp [(w2.heap.size, .cells #[.int .i64 4, .int .i64 1, .int .i64 0, .int .i64 0, .int .u64 0, .string ⟨#[]⟩, .int .i64 0, .int .u64 0, .string ⟨#[]⟩] 85), (b0, .cells #[.int .i64 xT, .int .u64 (xN : Int), .string ⟨xS.toArray⟩, .int .i64 yT, .int .u64 (yN : Int), .string ⟨yS.toArray⟩] 35)] M2 (w2.alloc (.cells #[.int .i64 4, .int .i64 1, .int .i64 0, .int .i64 0, .int .u64 0, .string ⟨#[]⟩, .int .i64 0, .int .u64 0, .string ⟨#[]⟩] 85)) := R2.alloc _ rfl
  generalize w2.alloc (.cells #[.int .i64 4, .int .i64 1, .int .i64 0, .int .i64 0, .int .u64 0, .string ⟨#[]⟩, .int .i64 0, .int .u64 0, .string ⟨#[]⟩] 85) = w3 at *
  generalize w2.heap.size = b1 at *
  have HD : Hid (b0 < b1) := hne
  clear R2 hne
  obtain ⟨e0, e1, e2, e3, e4, e5, e6, e7, e8, ez⟩ := cells9 (R3.box (b := b1) (o := .cells #[.int .i64 4, .int .i64 1, .int .i64 0, .int .i64 0, .int .u64 0, .string ⟨#[]⟩, .int .i64 0, .int .u64 0, .string ⟨#[]⟩] 85) (by simp)).1
  have le := (R3.box (b := b1) (o := .cells #[.int .i64 4, .int .i64 1, .int .i64 0, .int .i64 0, .int .u64 0, .string ⟨#[]⟩, .int .i64 0, .int .u64 0, .string ⟨#[]⟩] 85) (by simp)).2
  obtain ⟨r0, r1, r2, r3, r4, r5, rz⟩ := cells6 (R3.box (b := b0) (o := .cells #[.int .i64 xT, .int .u64 (xN : Int), .string ⟨xS.toArray⟩, .int .i64 yT, .int .u64 (yN : Int), .string ⟨yS.toArray⟩] 35) (by simp)).1
  have lr := (R3.box (b := b0) (o := .cells #[.int .i64 xT, .int .u64 (xN : Int), .string ⟨xS.toArray⟩, .int .i64 yT, .int .u64 (yN : Int), .string ⟨yS.toArray⟩] 35) (by simp)).2
  have HC3 := R3.exec HK2.out 1 ⟨xT, xN, xS⟩ ⟨yT, yN, yS⟩ HOK.out.1 HOK.out.2
  rw [HP.out.1] at HC3
  have HC3 : Calls Tryz.prog 37 #[.pointer (some ⟨m, 0, none⟩), .int .i64 1, .agg #[.int .i64 xT, .int .u64 (xN : Int), .string ⟨xS.toArray⟩], .agg #[.int .i64 yT, .int .u64 (yN : Int), .string ⟨yS.toArray⟩]] w3 fun e w' => e = .returned (.agg #[.int .i64 3, .int .i64 0, .int .i64 0, .int .i64 xT, .int .u64 (xN : Int), .string ⟨xS.toArray⟩, .int .i64 0, .int .u64 0, .string ⟨#[]⟩]) ∧ RL own W m a nb tp [(b1, .cells #[.int .i64 4, .int .i64 1, .int .i64 0, .int .i64 0, .int .u64 0, .string ⟨#[]⟩, .int .i64 0, .int .u64 0, .string ⟨#[]⟩] 85), (b0, .cells #[.int .i64 xT, .int .u64 (xN : Int), .string ⟨xS.toArray⟩, .int .i64 yT, .int .u64 (yN : Int), .string ⟨yS.toArray⟩] 35)] M3 w' := HC3
  clear R3
  go_wp2_with fail
  refine HC3.mono ?_; rintro e w4 ⟨rfl, R4⟩
  clear HC3
  clear e0 e1 e2 e3 e4 e5 e6 e7 e8 ez le r0 r1 r2 r3 r4 r5 rz lr
  obtain ⟨e0, e1, e2, e3, e4, e5, e6, e7, e8, ez⟩ := cells9 (R4.box (b := b1) (o := .cells #[.int .i64 4, .int .i64 1, .int .i64 0, .int .i64 0, .int .u64 0, .string ⟨#[]⟩, .int .i64 0, .int .u64 0, .string ⟨#[]⟩] 85) (by simp)).1
  have le := (R4.box (b := b1) (o := .cells #[.int .i64 4, .int .i64 1, .int .i64 0, .int .i64 0, .int .u64 0, .string ⟨#[]⟩, .int .i64 0, .int .u64 0, .string ⟨#[]⟩] 85) (by simp)).2
  obtain ⟨r0, r1, r2, r3, r4, r5, rz⟩ := cells6 (R4.box (b := b0) (o := .cells #[.int .i64 xT, .int .u64 (xN : Int), .string ⟨xS.toArray⟩, .int .i64 yT, .int .u64 (yN : Int), .string ⟨yS.toArray⟩] 35) (by simp)).1
  have lr := (R4.box (b := b0) (o := .cells #[.int .i64 xT, .int .u64 (xN : Int), .string ⟨xS.toArray⟩, .int .i64 yT, .int .u64 (yN : Int), .string ⟨yS.toArray⟩] 35) (by simp)).2
  have R5 : RL own W m a nb tp [(b1, .cells #[.int .i64 3, .int .i64 0, .int .i64 0, .int .i64 xT, .int .u64 (xN : Int), .string ⟨xS.toArray⟩, .int .i64 0, .int .u64 0, .string ⟨#[]⟩] 85), (b0, .cells #[.int .i64 xT, .int .u64 (xN : Int), .string ⟨xS.toArray⟩, .int .i64 yT, .int .u64 (yN : Int), .string ⟨yS.toArray⟩] 35)] M3 (((((((((w4.setCell ⟨b1, 0, none⟩ (.int .i64 3)).setCell ⟨b1, 1, none⟩ (.int .i64 0)).setCell ⟨b1, 2, none⟩ (.int .i64 0)).setCell ⟨b1, 3, none⟩ (.int .i64 xT)).setCell ⟨b1, 4, none⟩ (.int .u64 (xN : Int))).setCell ⟨b1, 5, none⟩ (.string ⟨xS.toArray⟩)).setCell ⟨b1, 6, none⟩ (.int .i64 0)).setCell ⟨b1, 7, none⟩ (.int .u64 0)).setCell ⟨b1, 8, none⟩ (.string ⟨#[]⟩)) := R4.setE (n := b1) (by first | exact List.mem_cons_self | exact List.mem_cons_of_mem _ List.mem_cons_self) (B' := [(b0, .cells #[.int .i64 xT, .int .u64 (xN : Int), .string ⟨xS.toArray⟩, .int .i64 yT, .int .u64 (yN : Int), .string ⟨yS.toArray⟩] 35)]) (fun p hp => by
    have hd := HD.out
    rw [List.mem_singleton] at hp
    subst hp
    exact ⟨by simp, by show b0 ≠ b1; omega⟩) (.int .i64 3) (.int .i64 0) (.int .i64 0) (.int .i64 xT) (.int .u64 (xN : Int)) (.string ⟨xS.toArray⟩) (.int .i64 0) (.int .u64 0) (.string ⟨#[]⟩)
  clear R4
  go_upto_region 6 with fail
  clear e0 e1 e2 e3 e4 e5 e6 e7 e8 ez le r0 r1 r2 r3 r4 r5 rz lr
  generalize (((((((((w4.setCell ⟨b1, 0, none⟩ (.int .i64 3)).setCell ⟨b1, 1, none⟩ (.int .i64 0)).setCell ⟨b1, 2, none⟩ (.int .i64 0)).setCell ⟨b1, 3, none⟩ (.int .i64 xT)).setCell ⟨b1, 4, none⟩ (.int .u64 (xN : Int))).setCell ⟨b1, 5, none⟩ (.string ⟨xS.toArray⟩)).setCell ⟨b1, 6, none⟩ (.int .i64 0)).setCell ⟨b1, 7, none⟩ (.int .u64 0)).setCell ⟨b1, 8, none⟩ (.string ⟨#[]⟩)) = w5 at *
  obtain ⟨e0, e1, e2, e3, e4, e5, e6, e7, e8, ez⟩ := cells9 (R5.box (b := b1) (o := .cells #[.int .i64 3, .int .i64 0, .int .i64 0, .int .i64 xT, .int .u64 (xN : Int), .string ⟨xS.toArray⟩, .int .i64 0, .int .u64 0, .string ⟨#[]⟩] 85) (by simp)).1
  have le := (R5.box (b := b1) (o := .cells #[.int .i64 3, .int .i64 0, .int .i64 0, .int .i64 xT, .int .u64 (xN : Int), .string ⟨xS.toArray⟩, .int .i64 0, .int .u64 0, .string ⟨#[]⟩] 85) (by simp)).2
  obtain ⟨r0, r1, r2, r3, r4, r5, rz⟩ := cells6 (R5.box (b := b0) (o := .cells #[.int .i64 xT, .int .u64 (xN : Int), .string ⟨xS.toArray⟩, .int .i64 yT, .int .u64 (yN : Int), .string ⟨yS.toArray⟩] 35) (by simp)).1
  have lr := (R5.box (b := b0) (o := .cells #[.int .i64 xT, .int .u64 (xN : Int), .string ⟨xS.toArray⟩, .int .i64 yT, .int .u64 (yN : Int), .string ⟨yS.toArray⟩] 35) (by simp)).2
  go_wp2_with fail
  refine (HFX.out _).mono ?_; rintro e w6 ⟨rfl, hb6⟩
  have R6 := R5.below hb6
  clear R5 hb6
  clear e0 e1 e2 e3 e4 e5 e6 e7 e8 ez le r0 r1 r2 r3 r4 r5 rz lr
  obtain ⟨e0, e1, e2, e3, e4, e5, e6, e7, e8, ez⟩ := cells9 (R6.box (b := b1) (o := .cells #[.int .i64 3, .int .i64 0, .int .i64 0, .int .i64 xT, .int .u64 (xN : Int), .string ⟨xS.toArray⟩, .int .i64 0, .int .u64 0, .string ⟨#[]⟩] 85) (by simp)).1
  have le := (R6.box (b := b1) (o := .cells #[.int .i64 3, .int .i64 0, .int .i64 0, .int .i64 xT, .int .u64 (xN : Int), .string ⟨xS.toArray⟩, .int .i64 0, .int .u64 0, .string ⟨#[]⟩] 85) (by simp)).2
  obtain ⟨r0, r1, r2, r3, r4, r5, rz⟩ := cells6 (R6.box (b := b0) (o := .cells #[.int .i64 xT, .int .u64 (xN : Int), .string ⟨xS.toArray⟩, .int .i64 yT, .int .u64 (yN : Int), .string ⟨yS.toArray⟩] 35) (by simp)).1
  have lr := (R6.box (b := b0) (o := .cells #[.int .i64 xT, .int .u64 (xN : Int), .string ⟨xS.toArray⟩, .int .i64 yT, .int .u64 (yN : Int), .string ⟨yS.toArray⟩] 35) (by simp)).2
  go_wp2_with fail
  refine (HFY.out _).mono ?_; rintro e w7 ⟨rfl, hb7⟩
  have R7 := R6.below hb7
  clear R6 hb7
  clear e0 e1 e2 e3 e4 e5 e6 e7 e8 ez le r0 r1 r2 r3 r4 r5 rz lr
  obtain ⟨e0, e1, e2, e3, e4, e5, e6, e7, e8, ez⟩ := cells9 (R7.box (b := b1) (o := .cells #[.int .i64 3, .int .i64 0, .int .i64 0, .int .i64 xT, .int .u64 (xN : Int), .string ⟨xS.toArray⟩, .int .i64 0, .int .u64 0, .string ⟨#[]⟩] 85) (by simp)).1
  have le := (R7.box (b := b1) (o := .cells #[.int .i64 3, .int .i64 0, .int .i64 0, .int .i64 xT, .int .u64 (xN : Int), .string ⟨xS.toArray⟩, .int .i64 0, .int .u64 0, .string ⟨#[]⟩] 85) (by simp)).2
  obtain ⟨r0, r1, r2, r3, r4, r5, rz⟩ := cells6 (R7.box (b := b0) (o := .cells #[.int .i64 xT, .int .u64 (xN : Int), .string ⟨xS.toArray⟩, .int .i64 yT, .int .u64 (yN : Int), .string ⟨yS.toArray⟩] 35) (by simp)).1
  have lr := (R7.box (b := b0) (o := .cells #[.int .i64 xT, .int .u64 (xN : Int), .string ⟨xS.toArray⟩, .int .i64 yT, .int .u64 (yN : Int), .string ⟨yS.toArray⟩] 35) (by simp)).2
  have HC4 := R7.exec HK.out.1 1 ⟨yT, yN, yS⟩ ⟨xT, xN, xS⟩ HOK.out.2 HOK.out.1
  rw [HP.out.2.1] at HC4
  have HC4 : Calls Tryz.prog 37 #[.pointer (some ⟨m, 0, none⟩), .int .i64 1, .agg #[.int .i64 yT, .int .u64 (yN : Int), .string ⟨yS.toArray⟩], .agg #[.int .i64 xT, .int .u64 (xN : Int), .string ⟨xS.toArray⟩]] w7 fun e w' => e = .returned (.agg #[.int .i64 1, .int .i64 0, .int .i64 0, .int .i64 1, .int .u64 1, .string ⟨#[]⟩, .int .i64 yT, .int .u64 (yN : Int), .string ⟨yS.toArray⟩]) ∧ RL own W m a nb tp [(b1, .cells #[.int .i64 3, .int .i64 0, .int .i64 0, .int .i64 xT, .int .u64 (xN : Int), .string ⟨xS.toArray⟩, .int .i64 0, .int .u64 0, .string ⟨#[]⟩] 85), (b0, .cells #[.int .i64 xT, .int .u64 (xN : Int), .string ⟨xS.toArray⟩, .int .i64 yT, .int .u64 (yN : Int), .string ⟨yS.toArray⟩] 35)] M4 w' := HC4
  clear R7
  go_wp2_with fail
  refine HC4.mono ?_; rintro e w8 ⟨rfl, R8⟩
  clear HC4
  clear e0 e1 e2 e3 e4 e5 e6 e7 e8 ez le r0 r1 r2 r3 r4 r5 rz lr
  obtain ⟨e0, e1, e2, e3, e4, e5, e6, e7, e8, ez⟩ := cells9 (R8.box (b := b1) (o := .cells #[.int .i64 3, .int .i64 0, .int .i64 0, .int .i64 xT, .int .u64 (xN : Int), .string ⟨xS.toArray⟩, .int .i64 0, .int .u64 0, .string ⟨#[]⟩] 85) (by simp)).1
  have le := (R8.box (b := b1) (o := .cells #[.int .i64 3, .int .i64 0, .int .i64 0, .int .i64 xT, .int .u64 (xN : Int), .string ⟨xS.toArray⟩, .int .i64 0, .int .u64 0, .string ⟨#[]⟩] 85) (by simp)).2
  obtain ⟨r0, r1, r2, r3, r4, r5, rz⟩ := cells6 (R8.box (b := b0) (o := .cells #[.int .i64 xT, .int .u64 (xN : Int), .string ⟨xS.toArray⟩, .int .i64 yT, .int .u64 (yN : Int), .string ⟨yS.toArray⟩] 35) (by simp)).1
  have lr := (R8.box (b := b0) (o := .cells #[.int .i64 xT, .int .u64 (xN : Int), .string ⟨xS.toArray⟩, .int .i64 yT, .int .u64 (yN : Int), .string ⟨yS.toArray⟩] 35) (by simp)).2
  have R9 : RL own W m a nb tp [(b1, .cells #[.int .i64 1, .int .i64 0, .int .i64 0, .int .i64 1, .int .u64 1, .string ⟨#[]⟩, .int .i64 yT, .int .u64 (yN : Int), .string ⟨yS.toArray⟩] 85), (b0, .cells #[.int .i64 xT, .int .u64 (xN : Int), .string ⟨xS.toArray⟩, .int .i64 yT, .int .u64 (yN : Int), .string ⟨yS.toArray⟩] 35)] M4 (((((((((w8.setCell ⟨b1, 0, none⟩ (.int .i64 1)).setCell ⟨b1, 1, none⟩ (.int .i64 0)).setCell ⟨b1, 2, none⟩ (.int .i64 0)).setCell ⟨b1, 3, none⟩ (.int .i64 1)).setCell ⟨b1, 4, none⟩ (.int .u64 1)).setCell ⟨b1, 5, none⟩ (.string ⟨#[]⟩)).setCell ⟨b1, 6, none⟩ (.int .i64 yT)).setCell ⟨b1, 7, none⟩ (.int .u64 (yN : Int))).setCell ⟨b1, 8, none⟩ (.string ⟨yS.toArray⟩)) := R8.setE (n := b1) (by first | exact List.mem_cons_self | exact List.mem_cons_of_mem _ List.mem_cons_self) (B' := [(b0, .cells #[.int .i64 xT, .int .u64 (xN : Int), .string ⟨xS.toArray⟩, .int .i64 yT, .int .u64 (yN : Int), .string ⟨yS.toArray⟩] 35)]) (fun p hp => by
    have hd := HD.out
    rw [List.mem_singleton] at hp
    subst hp
    exact ⟨by simp, by show b0 ≠ b1; omega⟩) (.int .i64 1) (.int .i64 0) (.int .i64 0) (.int .i64 1) (.int .u64 1) (.string ⟨#[]⟩) (.int .i64 yT) (.int .u64 (yN : Int)) (.string ⟨yS.toArray⟩)
  clear R8
  go_upto_region 13 with fail
  clear e0 e1 e2 e3 e4 e5 e6 e7 e8 ez le r0 r1 r2 r3 r4 r5 rz lr
  generalize (((((((((w8.setCell ⟨b1, 0, none⟩ (.int .i64 1)).setCell ⟨b1, 1, none⟩ (.int .i64 0)).setCell ⟨b1, 2, none⟩ (.int .i64 0)).setCell ⟨b1, 3, none⟩ (.int .i64 1)).setCell ⟨b1, 4, none⟩ (.int .u64 1)).setCell ⟨b1, 5, none⟩ (.string ⟨#[]⟩)).setCell ⟨b1, 6, none⟩ (.int .i64 yT)).setCell ⟨b1, 7, none⟩ (.int .u64 (yN : Int))).setCell ⟨b1, 8, none⟩ (.string ⟨yS.toArray⟩)) = w9 at *
  obtain ⟨e0, e1, e2, e3, e4, e5, e6, e7, e8, ez⟩ := cells9 (R9.box (b := b1) (o := .cells #[.int .i64 1, .int .i64 0, .int .i64 0, .int .i64 1, .int .u64 1, .string ⟨#[]⟩, .int .i64 yT, .int .u64 (yN : Int), .string ⟨yS.toArray⟩] 85) (by simp)).1
  have le := (R9.box (b := b1) (o := .cells #[.int .i64 1, .int .i64 0, .int .i64 0, .int .i64 1, .int .u64 1, .string ⟨#[]⟩, .int .i64 yT, .int .u64 (yN : Int), .string ⟨yS.toArray⟩] 85) (by simp)).2
  obtain ⟨r0, r1, r2, r3, r4, r5, rz⟩ := cells6 (R9.box (b := b0) (o := .cells #[.int .i64 xT, .int .u64 (xN : Int), .string ⟨xS.toArray⟩, .int .i64 yT, .int .u64 (yN : Int), .string ⟨yS.toArray⟩] 35) (by simp)).1
  have lr := (R9.box (b := b0) (o := .cells #[.int .i64 xT, .int .u64 (xN : Int), .string ⟨xS.toArray⟩, .int .i64 yT, .int .u64 (yN : Int), .string ⟨yS.toArray⟩] 35) (by simp)).2
  go_wp2_with fail
  refine (HTY.out _).mono ?_; rintro e w10 ⟨rfl, hb10⟩
  have R10 := R9.below hb10
  clear R9 hb10
  clear e0 e1 e2 e3 e4 e5 e6 e7 e8 ez le r0 r1 r2 r3 r4 r5 rz lr
  have HBO : Calls Tryz.prog 40 #[.bool true] w10 fun e w' => e = .returned (.agg #[.int .i64 1, .int .u64 1, .string ⟨#[]⟩]) ∧ Below w10.heap.size w10 w' := bool_any true w10
  go_wp2_with fail
  refine HBO.mono ?_; rintro e w11 ⟨rfl, hb11⟩
  have R11 := R10.below hb11
  have hne : b1 < w11.heap.size := (R11.box (b := b1) (o := .cells #[.int .i64 1, .int .i64 0, .int .i64 0, .int .i64 1, .int .u64 1, .string ⟨#[]⟩, .int .i64 yT, .int .u64 (yN : Int), .string ⟨yS.toArray⟩] 85) (by simp)).2
  clear R10 hb11 HBO
  go_upto_region 15 with fail
  have R12 : RL own W m a nb tp [(w11.heap.size, .cells #[.int .i64 1, .int .u64 1, .string ⟨#[]⟩] 33), (b1, .cells #[.int .i64 1, .int .i64 0, .int .i64 0, .int .i64 1, .int .u64 1, .string ⟨#[]⟩, .int .i64 yT, .int .u64 (yN : Int), .string ⟨yS.toArray⟩] 85), (b0, .cells #[.int .i64 xT, .int .u64 (xN : Int), .string ⟨xS.toArray⟩, .int .i64 yT, .int .u64 (yN : Int), .string ⟨yS.toArray⟩] 35)] M4 (w11.alloc (.cells #[.int .i64 1, .int .u64 1, .string ⟨#[]⟩] 33)) := R11.alloc _ rfl
  generalize w11.alloc (.cells #[.int .i64 1, .int .u64 1, .string ⟨#[]⟩] 33) = w12 at *
  generalize w11.heap.size = b2 at *
  have HD : Hid (b0 < b1 ∧ b1 < b2) := ⟨HD.out, hne⟩
  clear R11 hne
  obtain ⟨c0, c1, c2, cz⟩ := cells3 (R12.box (b := b2) (o := .cells #[.int .i64 1, .int .u64 1, .string ⟨#[]⟩] 33) (by simp)).1
  have lc := (R12.box (b := b2) (o := .cells #[.int .i64 1, .int .u64 1, .string ⟨#[]⟩] 33) (by simp)).2
  obtain ⟨e0, e1, e2, e3, e4, e5, e6, e7, e8, ez⟩ := cells9 (R12.box (b := b1) (o := .cells #[.int .i64 1, .int .i64 0, .int .i64 0, .int .i64 1, .int .u64 1, .string ⟨#[]⟩, .int .i64 yT, .int .u64 (yN : Int), .string ⟨yS.toArray⟩] 85) (by simp)).1
  have le := (R12.box (b := b1) (o := .cells #[.int .i64 1, .int .i64 0, .int .i64 0, .int .i64 1, .int .u64 1, .string ⟨#[]⟩, .int .i64 yT, .int .u64 (yN : Int), .string ⟨yS.toArray⟩] 85) (by simp)).2
  obtain ⟨r0, r1, r2, r3, r4, r5, rz⟩ := cells6 (R12.box (b := b0) (o := .cells #[.int .i64 xT, .int .u64 (xN : Int), .string ⟨xS.toArray⟩, .int .i64 yT, .int .u64 (yN : Int), .string ⟨yS.toArray⟩] 35) (by simp)).1
  have lr := (R12.box (b := b0) (o := .cells #[.int .i64 xT, .int .u64 (xN : Int), .string ⟨xS.toArray⟩, .int .i64 yT, .int .u64 (yN : Int), .string ⟨yS.toArray⟩] 35) (by simp)).2
  have HC5 := R12.exec HK.out.2 0 ⟨xT, xN, xS⟩ ⟨yT, yN, yS⟩ HOK.out.1 HOK.out.2
  rw [HP.out.2.2.1, HP.out.2.2.2.2] at HC5
  have HC5 : Calls Tryz.prog 37 #[.pointer (some ⟨m, 0, none⟩), .int .i64 0, .agg #[.int .i64 xT, .int .u64 (xN : Int), .string ⟨xS.toArray⟩], .agg #[.int .i64 yT, .int .u64 (yN : Int), .string ⟨yS.toArray⟩]] w12 fun e w' => e = .returned (.agg #[.int .i64 1, .int .i64 0, .int .i64 0, .int .i64 yT, .int .u64 (yN : Int), .string ⟨yS.toArray⟩, .int .i64 1, .int .u64 1, .string ⟨#[]⟩]) ∧ RL own W m a nb tp [(b2, .cells #[.int .i64 1, .int .u64 1, .string ⟨#[]⟩] 33), (b1, .cells #[.int .i64 1, .int .i64 0, .int .i64 0, .int .i64 1, .int .u64 1, .string ⟨#[]⟩, .int .i64 yT, .int .u64 (yN : Int), .string ⟨yS.toArray⟩] 85), (b0, .cells #[.int .i64 xT, .int .u64 (xN : Int), .string ⟨xS.toArray⟩, .int .i64 yT, .int .u64 (yN : Int), .string ⟨yS.toArray⟩] 35)] M5 w' := HC5
  clear R12
  go_wp2_with fail
  refine HC5.mono ?_; rintro e w13 ⟨rfl, R13⟩
  clear HC5
  clear c0 c1 c2 cz lc e0 e1 e2 e3 e4 e5 e6 e7 e8 ez le r0 r1 r2 r3 r4 r5 rz lr
  obtain ⟨c0, c1, c2, cz⟩ := cells3 (R13.box (b := b2) (o := .cells #[.int .i64 1, .int .u64 1, .string ⟨#[]⟩] 33) (by simp)).1
  have lc := (R13.box (b := b2) (o := .cells #[.int .i64 1, .int .u64 1, .string ⟨#[]⟩] 33) (by simp)).2
  obtain ⟨e0, e1, e2, e3, e4, e5, e6, e7, e8, ez⟩ := cells9 (R13.box (b := b1) (o := .cells #[.int .i64 1, .int .i64 0, .int .i64 0, .int .i64 1, .int .u64 1, .string ⟨#[]⟩, .int .i64 yT, .int .u64 (yN : Int), .string ⟨yS.toArray⟩] 85) (by simp)).1
  have le := (R13.box (b := b1) (o := .cells #[.int .i64 1, .int .i64 0, .int .i64 0, .int .i64 1, .int .u64 1, .string ⟨#[]⟩, .int .i64 yT, .int .u64 (yN : Int), .string ⟨yS.toArray⟩] 85) (by simp)).2
  obtain ⟨r0, r1, r2, r3, r4, r5, rz⟩ := cells6 (R13.box (b := b0) (o := .cells #[.int .i64 xT, .int .u64 (xN : Int), .string ⟨xS.toArray⟩, .int .i64 yT, .int .u64 (yN : Int), .string ⟨yS.toArray⟩] 35) (by simp)).1
  have lr := (R13.box (b := b0) (o := .cells #[.int .i64 xT, .int .u64 (xN : Int), .string ⟨xS.toArray⟩, .int .i64 yT, .int .u64 (yN : Int), .string ⟨yS.toArray⟩] 35) (by simp)).2
  have R14 : RL own W m a nb tp [(b1, .cells #[.int .i64 1, .int .i64 0, .int .i64 0, .int .i64 yT, .int .u64 (yN : Int), .string ⟨yS.toArray⟩, .int .i64 1, .int .u64 1, .string ⟨#[]⟩] 85), (b2, .cells #[.int .i64 1, .int .u64 1, .string ⟨#[]⟩] 33), (b0, .cells #[.int .i64 xT, .int .u64 (xN : Int), .string ⟨xS.toArray⟩, .int .i64 yT, .int .u64 (yN : Int), .string ⟨yS.toArray⟩] 35)] M5 (((((((((w13.setCell ⟨b1, 0, none⟩ (.int .i64 1)).setCell ⟨b1, 1, none⟩ (.int .i64 0)).setCell ⟨b1, 2, none⟩ (.int .i64 0)).setCell ⟨b1, 3, none⟩ (.int .i64 yT)).setCell ⟨b1, 4, none⟩ (.int .u64 (yN : Int))).setCell ⟨b1, 5, none⟩ (.string ⟨yS.toArray⟩)).setCell ⟨b1, 6, none⟩ (.int .i64 1)).setCell ⟨b1, 7, none⟩ (.int .u64 1)).setCell ⟨b1, 8, none⟩ (.string ⟨#[]⟩)) := R13.setE (n := b1) (by first | exact List.mem_cons_self | exact List.mem_cons_of_mem _ List.mem_cons_self) (B' := [(b2, .cells #[.int .i64 1, .int .u64 1, .string ⟨#[]⟩] 33), (b0, .cells #[.int .i64 xT, .int .u64 (xN : Int), .string ⟨xS.toArray⟩, .int .i64 yT, .int .u64 (yN : Int), .string ⟨yS.toArray⟩] 35)]) (fun p hp => by
    simp only [List.mem_cons, List.not_mem_nil, or_false] at hp
    have hd := HD.out
    rcases hp with rfl | rfl
    · exact ⟨by simp, by show b2 ≠ b1; omega⟩
    · exact ⟨by simp, by show b0 ≠ b1; omega⟩
    ) (.int .i64 1) (.int .i64 0) (.int .i64 0) (.int .i64 yT) (.int .u64 (yN : Int)) (.string ⟨yS.toArray⟩) (.int .i64 1) (.int .u64 1) (.string ⟨#[]⟩)
  clear R13
  go_upto_region 18 with fail
  clear c0 c1 c2 cz lc e0 e1 e2 e3 e4 e5 e6 e7 e8 ez le r0 r1 r2 r3 r4 r5 rz lr
  generalize (((((((((w13.setCell ⟨b1, 0, none⟩ (.int .i64 1)).setCell ⟨b1, 1, none⟩ (.int .i64 0)).setCell ⟨b1, 2, none⟩ (.int .i64 0)).setCell ⟨b1, 3, none⟩ (.int .i64 yT)).setCell ⟨b1, 4, none⟩ (.int .u64 (yN : Int))).setCell ⟨b1, 5, none⟩ (.string ⟨yS.toArray⟩)).setCell ⟨b1, 6, none⟩ (.int .i64 1)).setCell ⟨b1, 7, none⟩ (.int .u64 1)).setCell ⟨b1, 8, none⟩ (.string ⟨#[]⟩)) = w14 at *
  obtain ⟨e0, e1, e2, e3, e4, e5, e6, e7, e8, ez⟩ := cells9 (R14.box (b := b1) (o := .cells #[.int .i64 1, .int .i64 0, .int .i64 0, .int .i64 yT, .int .u64 (yN : Int), .string ⟨yS.toArray⟩, .int .i64 1, .int .u64 1, .string ⟨#[]⟩] 85) (by simp)).1
  have le := (R14.box (b := b1) (o := .cells #[.int .i64 1, .int .i64 0, .int .i64 0, .int .i64 yT, .int .u64 (yN : Int), .string ⟨yS.toArray⟩, .int .i64 1, .int .u64 1, .string ⟨#[]⟩] 85) (by simp)).2
  obtain ⟨c0, c1, c2, cz⟩ := cells3 (R14.box (b := b2) (o := .cells #[.int .i64 1, .int .u64 1, .string ⟨#[]⟩] 33) (by simp)).1
  have lc := (R14.box (b := b2) (o := .cells #[.int .i64 1, .int .u64 1, .string ⟨#[]⟩] 33) (by simp)).2
  obtain ⟨r0, r1, r2, r3, r4, r5, rz⟩ := cells6 (R14.box (b := b0) (o := .cells #[.int .i64 xT, .int .u64 (xN : Int), .string ⟨xS.toArray⟩, .int .i64 yT, .int .u64 (yN : Int), .string ⟨yS.toArray⟩] 35) (by simp)).1
  have lr := (R14.box (b := b0) (o := .cells #[.int .i64 xT, .int .u64 (xN : Int), .string ⟨xS.toArray⟩, .int .i64 yT, .int .u64 (yN : Int), .string ⟨yS.toArray⟩] 35) (by simp)).2
  have hne : b2 < w14.heap.size := (R14.box (b := b2) (o := .cells #[.int .i64 1, .int .u64 1, .string ⟨#[]⟩] 33) (by simp)).2
  go_upto_region 19 with fail
  clear c0 c1 c2 cz lc e0 e1 e2 e3 e4 e5 e6 e7 e8 ez le r0 r1 r2 r3 r4 r5 rz lr
  have R15 : RL own W m a nb tp [(w14.heap.size, .cells #[.int .i64 xT, .int .u64 (xN : Int), .string ⟨xS.toArray⟩] 33), (b1, .cells #[.int .i64 1, .int .i64 0, .int .i64 0, .int .i64 yT, .int .u64 (yN : Int), .string ⟨yS.toArray⟩, .int .i64 1, .int .u64 1, .string ⟨#[]⟩] 85), (b2, .cells #[.int .i64 1, .int .u64 1, .string ⟨#[]⟩] 33), (b0, .cells #[.int .i64 xT, .int .u64 (xN : Int), .string ⟨xS.toArray⟩, .int .i64 yT, .int .u64 (yN : Int), .string ⟨yS.toArray⟩] 35)] M5 (w14.alloc (.cells #[.int .i64 xT, .int .u64 (xN : Int), .string ⟨xS.toArray⟩] 33)) := R14.alloc _ rfl
  generalize w14.alloc (.cells #[.int .i64 xT, .int .u64 (xN : Int), .string ⟨xS.toArray⟩] 33) = w15 at *
  generalize w14.heap.size = b3 at *
  have HD : Hid (b0 < b1 ∧ b1 < b2 ∧ b2 < b3) := ⟨HD.out.1, HD.out.2, hne⟩
  clear R14 hne
  obtain ⟨n0, n1, n2, nz⟩ := cells3 (R15.box (b := b3) (o := .cells #[.int .i64 xT, .int .u64 (xN : Int), .string ⟨xS.toArray⟩] 33) (by simp)).1
  have ln := (R15.box (b := b3) (o := .cells #[.int .i64 xT, .int .u64 (xN : Int), .string ⟨xS.toArray⟩] 33) (by simp)).2
  obtain ⟨e0, e1, e2, e3, e4, e5, e6, e7, e8, ez⟩ := cells9 (R15.box (b := b1) (o := .cells #[.int .i64 1, .int .i64 0, .int .i64 0, .int .i64 yT, .int .u64 (yN : Int), .string ⟨yS.toArray⟩, .int .i64 1, .int .u64 1, .string ⟨#[]⟩] 85) (by simp)).1
  have le := (R15.box (b := b1) (o := .cells #[.int .i64 1, .int .i64 0, .int .i64 0, .int .i64 yT, .int .u64 (yN : Int), .string ⟨yS.toArray⟩, .int .i64 1, .int .u64 1, .string ⟨#[]⟩] 85) (by simp)).2
  obtain ⟨c0, c1, c2, cz⟩ := cells3 (R15.box (b := b2) (o := .cells #[.int .i64 1, .int .u64 1, .string ⟨#[]⟩] 33) (by simp)).1
  have lc := (R15.box (b := b2) (o := .cells #[.int .i64 1, .int .u64 1, .string ⟨#[]⟩] 33) (by simp)).2
  obtain ⟨r0, r1, r2, r3, r4, r5, rz⟩ := cells6 (R15.box (b := b0) (o := .cells #[.int .i64 xT, .int .u64 (xN : Int), .string ⟨xS.toArray⟩, .int .i64 yT, .int .u64 (yN : Int), .string ⟨yS.toArray⟩] 35) (by simp)).1
  have lr := (R15.box (b := b0) (o := .cells #[.int .i64 xT, .int .u64 (xN : Int), .string ⟨xS.toArray⟩, .int .i64 yT, .int .u64 (yN : Int), .string ⟨yS.toArray⟩] 35) (by simp)).2
  go_wp2_with fail
  refine (HTX.out _).mono ?_; rintro e w16 ⟨rfl, hb16⟩
  have R16 := R15.below hb16
  clear R15 hb16
  clear n0 n1 n2 nz ln e0 e1 e2 e3 e4 e5 e6 e7 e8 ez le c0 c1 c2 cz lc r0 r1 r2 r3 r4 r5 rz lr
  obtain ⟨n0, n1, n2, nz⟩ := cells3 (R16.box (b := b3) (o := .cells #[.int .i64 xT, .int .u64 (xN : Int), .string ⟨xS.toArray⟩] 33) (by simp)).1
  have ln := (R16.box (b := b3) (o := .cells #[.int .i64 xT, .int .u64 (xN : Int), .string ⟨xS.toArray⟩] 33) (by simp)).2
  obtain ⟨e0, e1, e2, e3, e4, e5, e6, e7, e8, ez⟩ := cells9 (R16.box (b := b1) (o := .cells #[.int .i64 1, .int .i64 0, .int .i64 0, .int .i64 yT, .int .u64 (yN : Int), .string ⟨yS.toArray⟩, .int .i64 1, .int .u64 1, .string ⟨#[]⟩] 85) (by simp)).1
  have le := (R16.box (b := b1) (o := .cells #[.int .i64 1, .int .i64 0, .int .i64 0, .int .i64 yT, .int .u64 (yN : Int), .string ⟨yS.toArray⟩, .int .i64 1, .int .u64 1, .string ⟨#[]⟩] 85) (by simp)).2
  obtain ⟨c0, c1, c2, cz⟩ := cells3 (R16.box (b := b2) (o := .cells #[.int .i64 1, .int .u64 1, .string ⟨#[]⟩] 33) (by simp)).1
  have lc := (R16.box (b := b2) (o := .cells #[.int .i64 1, .int .u64 1, .string ⟨#[]⟩] 33) (by simp)).2
  obtain ⟨r0, r1, r2, r3, r4, r5, rz⟩ := cells6 (R16.box (b := b0) (o := .cells #[.int .i64 xT, .int .u64 (xN : Int), .string ⟨xS.toArray⟩, .int .i64 yT, .int .u64 (yN : Int), .string ⟨yS.toArray⟩] 35) (by simp)).1
  have lr := (R16.box (b := b0) (o := .cells #[.int .i64 xT, .int .u64 (xN : Int), .string ⟨xS.toArray⟩, .int .i64 yT, .int .u64 (yN : Int), .string ⟨yS.toArray⟩] 35) (by simp)).2
  have R17 : RL own W m a nb tp [(b3, .cells #[.int .i64 yT, .int .u64 (yN : Int), .string ⟨yS.toArray⟩] 33), (b1, .cells #[.int .i64 1, .int .i64 0, .int .i64 0, .int .i64 yT, .int .u64 (yN : Int), .string ⟨yS.toArray⟩, .int .i64 1, .int .u64 1, .string ⟨#[]⟩] 85), (b2, .cells #[.int .i64 1, .int .u64 1, .string ⟨#[]⟩] 33), (b0, .cells #[.int .i64 xT, .int .u64 (xN : Int), .string ⟨xS.toArray⟩, .int .i64 yT, .int .u64 (yN : Int), .string ⟨yS.toArray⟩] 35)] M5 (((w16.setCell ⟨b3, 0, none⟩ (.int .i64 yT)).setCell ⟨b3, 1, none⟩ (.int .u64 (yN : Int))).setCell ⟨b3, 2, none⟩ (.string ⟨yS.toArray⟩)) := R16.setV (n := b3) List.mem_cons_self (B' := [(b1, .cells #[.int .i64 1, .int .i64 0, .int .i64 0, .int .i64 yT, .int .u64 (yN : Int), .string ⟨yS.toArray⟩, .int .i64 1, .int .u64 1, .string ⟨#[]⟩] 85), (b2, .cells #[.int .i64 1, .int .u64 1, .string ⟨#[]⟩] 33), (b0, .cells #[.int .i64 xT, .int .u64 (xN : Int), .string ⟨xS.toArray⟩, .int .i64 yT, .int .u64 (yN : Int), .string ⟨yS.toArray⟩] 35)]) (fun p hp => by
    simp only [List.mem_cons, List.not_mem_nil, or_false] at hp
    have hd := HD.out
    rcases hp with rfl | rfl | rfl
    · exact ⟨by simp, by show b1 ≠ b3; omega⟩
    · exact ⟨by simp, by show b2 ≠ b3; omega⟩
    · exact ⟨by simp, by show b0 ≠ b3; omega⟩
    ) (.int .i64 yT) (.int .u64 (yN : Int)) (.string ⟨yS.toArray⟩)
  clear R16
  go_upto_region 21 with fail
  clear n0 n1 n2 nz ln e0 e1 e2 e3 e4 e5 e6 e7 e8 ez le c0 c1 c2 cz lc r0 r1 r2 r3 r4 r5 rz lr
  generalize (((w16.setCell ⟨b3, 0, none⟩ (.int .i64 yT)).setCell ⟨b3, 1, none⟩ (.int .u64 (yN : Int))).setCell ⟨b3, 2, none⟩ (.string ⟨yS.toArray⟩)) = w17 at *
  obtain ⟨n0, n1, n2, nz⟩ := cells3 (R17.box (b := b3) (o := .cells #[.int .i64 yT, .int .u64 (yN : Int), .string ⟨yS.toArray⟩] 33) (by simp)).1
  have ln := (R17.box (b := b3) (o := .cells #[.int .i64 yT, .int .u64 (yN : Int), .string ⟨yS.toArray⟩] 33) (by simp)).2
  obtain ⟨e0, e1, e2, e3, e4, e5, e6, e7, e8, ez⟩ := cells9 (R17.box (b := b1) (o := .cells #[.int .i64 1, .int .i64 0, .int .i64 0, .int .i64 yT, .int .u64 (yN : Int), .string ⟨yS.toArray⟩, .int .i64 1, .int .u64 1, .string ⟨#[]⟩] 85) (by simp)).1
  have le := (R17.box (b := b1) (o := .cells #[.int .i64 1, .int .i64 0, .int .i64 0, .int .i64 yT, .int .u64 (yN : Int), .string ⟨yS.toArray⟩, .int .i64 1, .int .u64 1, .string ⟨#[]⟩] 85) (by simp)).2
  obtain ⟨c0, c1, c2, cz⟩ := cells3 (R17.box (b := b2) (o := .cells #[.int .i64 1, .int .u64 1, .string ⟨#[]⟩] 33) (by simp)).1
  have lc := (R17.box (b := b2) (o := .cells #[.int .i64 1, .int .u64 1, .string ⟨#[]⟩] 33) (by simp)).2
  obtain ⟨r0, r1, r2, r3, r4, r5, rz⟩ := cells6 (R17.box (b := b0) (o := .cells #[.int .i64 xT, .int .u64 (xN : Int), .string ⟨xS.toArray⟩, .int .i64 yT, .int .u64 (yN : Int), .string ⟨yS.toArray⟩] 35) (by simp)).1
  have lr := (R17.box (b := b0) (o := .cells #[.int .i64 xT, .int .u64 (xN : Int), .string ⟨xS.toArray⟩, .int .i64 yT, .int .u64 (yN : Int), .string ⟨yS.toArray⟩] 35) (by simp)).2
  have HF := R17.fuel
  rw [HP.out.2.2.2.1] at HF
  have HF : Calls Tryz.prog 23 #[.pointer (some ⟨m, 0, none⟩)] w17 fun e w' => e = .returned (.int .i64 5) ∧ w' = w17 := HF
  have HNX : Hid (∃ M', Nx own W m a nb tp M' w17) := ⟨_, R17.nx⟩
  clear R17
  go_wp2_with fail
  refine HF.mono ?_; rintro e w18 ⟨rfl, hq⟩; have hq := hq.symm; subst hq
  clear HF
  go_wp2_with fail
  go_ret
  exact ⟨by simp, HNX.out⟩

set_option maxRecDepth 8000 in
set_option maxHeartbeats 1600000 in
theorem probe_g10 {own : Nat → Nat} {W : World} {m a nb tp : Nat} {M : Mc} (HV : Vm own W m a nb tp M) (x y : V) (hx : x.Ok) (hy : y.Ok) (hf : fitP x = true) (hg : fitP y = true) (hty : truthy y = true) (htx : truthy x = false) : Calls Tryz.prog 21 #[.pointer (some ⟨m, 0, none⟩), regV x y] W fun e w' => e = .returned (.bool true) ∧ ∃ M', Nx own W m a nb tp M' w' := by
  have P2 := play2 x y hf hg
  have P3 := play3 x y hf hg
  obtain ⟨P4, P5⟩ := play4 x y hf hg
  rw [hty] at P3 P5
  rw [htx] at P4
  have K3 : Rest (cM3 x) := by have h := (exec_ev cM2_rest 1 hx.N hy.N).2.2; rw [P2] at h; dsimp only at h; exact h
  have K4 : Rest (cM4 x y) := by have h := (exec_ev K3 1 hy.N hx.N).2.2; rw [P3] at h; dsimp only at h; exact h
  have HTX := fun w => truthy_any x w
  have HTY := fun w => truthy_any y w
  have HFX := fun w => fit_any x w hx
  have HFY := fun w => fit_any y w hy
  rw [hf] at HFX
  rw [hg] at HFY
  rw [htx] at HTX
  rw [hty] at HTY
  generalize cM3 x = M3 at *
  generalize cM4 x y = M4 at *
  generalize hM5 : (execP M4 0 x y).1 = M5 at P5
  obtain ⟨xT, xN, xS⟩ := x
  obtain ⟨yT, yN, yS⟩ := y
  have HTX : Hid (∀ w, Calls Tryz.prog 39 #[.agg #[.int .i64 xT, .int .u64 (xN : Int), .string ⟨xS.toArray⟩]] w fun e w' => e = .returned (.bool false) ∧ Below w.heap.size w w') := HTX
  have HTY : Hid (∀ w, Calls Tryz.prog 39 #[.agg #[.int .i64 yT, .int .u64 (yN : Int), .string ⟨yS.toArray⟩]] w fun e w' => e = .returned (.bool true) ∧ Below w.heap.size w w') := HTY
  have HFX : Hid (∀ w, Calls Tryz.prog 38 #[.agg #[.int .i64 xT, .int .u64 (xN : Int), .string ⟨xS.toArray⟩]] w fun e w' => e = .returned (.bool true) ∧ Below w.heap.size w w') := HFX
  have HFY : Hid (∀ w, Calls Tryz.prog 38 #[.agg #[.int .i64 yT, .int .u64 (yN : Int), .string ⟨yS.toArray⟩]] w fun e w' => e = .returned (.bool true) ∧ Below w.heap.size w w') := HFY
  have HOK : Hid ((⟨xT, xN, xS⟩ : V).Ok ∧ (⟨yT, yN, yS⟩ : V).Ok) := ⟨hx, hy⟩
  have HP : Hid (execP cM2 1 ⟨xT, xN, xS⟩ ⟨yT, yN, yS⟩ = (M3, ⟨3, 0, 0, ⟨xT, xN, xS⟩, nilV⟩) ∧ execP M3 1 ⟨yT, yN, yS⟩ ⟨xT, xN, xS⟩ = _ ∧ (execP M4 0 ⟨xT, xN, xS⟩ ⟨yT, yN, yS⟩).2 = _ ∧ M5.fuel = _ ∧ (execP M4 0 ⟨xT, xN, xS⟩ ⟨yT, yN, yS⟩).1 = M5) := ⟨P2, P3, P4, P5, hM5⟩
  have HK : Hid (Rest M3 ∧ Rest M4) := ⟨K3, K4⟩
  clear P2 P3 P4 P5 K3 K4 hty htx hf hg hx hy hM5
  have R0 := (RL.start HV).alloc (.cells #[.int .i64 xT, .int .u64 (xN : Int), .string ⟨xS.toArray⟩, .int .i64 yT, .int .u64 (yN : Int), .string ⟨yS.toArray⟩] 35) rfl
  have HC := R0.load catI 9 (by decide) ⟨by decide, by decide⟩
  rw [ca] at HC
  clear HV R0
  show Calls Tryz.prog 21 #[.pointer (some ⟨m, 0, none⟩), .agg #[.int .i64 xT, .int .u64 (xN : Int), .string ⟨xS.toArray⟩, .int .i64 yT, .int .u64 (yN : Int), .string ⟨yS.toArray⟩]] W _
  go_enter Tryz.func21, Tryz.ntmps21
  go_wp2_with fail
  refine HC.mono ?_; rintro e w1 ⟨rfl, R1⟩
  have HC2 := R1.exec (load_keeps catI 9 (by decide)) 0 nilV nilV nilOk2 nilOk2
  rw [cb] at HC2
  have HC2 : Calls Tryz.prog 37 #[.pointer (some ⟨m, 0, none⟩), .int .i64 0, .agg #[.int .i64 0, .int .u64 0, .string ⟨#[]⟩], .agg #[.int .i64 0, .int .u64 0, .string ⟨#[]⟩]] w1 fun e w' => e = .returned (.agg #[.int .i64 4, .int .i64 1, .int .i64 0, .int .i64 0, .int .u64 0, .string ⟨#[]⟩, .int .i64 0, .int .u64 0, .string ⟨#[]⟩]) ∧ RL own W m a nb tp [(W.heap.size, .cells #[.int .i64 xT, .int .u64 (xN : Int), .string ⟨xS.toArray⟩, .int .i64 yT, .int .u64 (yN : Int), .string ⟨yS.toArray⟩] 35)] cM2 w' := HC2
  have HK2 : Hid (Rest cM2) := cM2_rest
  generalize hM2 : cM2 = M2 at *
  clear hM2
  generalize hb0 : W.heap.size = b0 at *
  clear hb0
  obtain ⟨r0, r1, r2, r3, r4, r5, rz⟩ := cells6 (R1.box (b := b0) (o := .cells #[.int .i64 xT, .int .u64 (xN : Int), .string ⟨xS.toArray⟩, .int .i64 yT, .int .u64 (yN : Int), .string ⟨yS.toArray⟩] 35) (by simp)).1
  have lr := (R1.box (b := b0) (o := .cells #[.int .i64 xT, .int .u64 (xN : Int), .string ⟨xS.toArray⟩, .int .i64 yT, .int .u64 (yN : Int), .string ⟨yS.toArray⟩] 35) (by simp)).2
  clear R1 HC
  go_wp2_with fail
  refine HC2.mono ?_; rintro e w2 ⟨rfl, R2⟩
  have hne : b0 < w2.heap.size := (R2.box (b := b0) (o := .cells #[.int .i64 xT, .int .u64 (xN : Int), .string ⟨xS.toArray⟩, .int .i64 yT, .int .u64 (yN : Int), .string ⟨yS.toArray⟩] 35) (by simp)).2
  clear HC2
  clear r0 r1 r2 r3 r4 r5 rz lr
  go_upto_region 3 with fail
  have R3 : RL own W m a nb tp [(w2.heap.size, .cells #[.int .i64 4, .int .i64 1, .int .i64 0, .int .i64 0, .int .u64 0, .string ⟨#[]⟩, .int .i64 0, .int .u64 0, .string ⟨#[]⟩] 85), (b0, .cells #[.int .i64 xT, .int .u64 (xN : Int), .string ⟨xS.toArray⟩, .int .i64 yT, .int .u64 (yN : Int), .string ⟨yS.toArray⟩] 35)] M2 (w2.alloc (.cells #[.int .i64 4, .int .i64 1, .int .i64 0, .int .i64 0, .int .u64 0, .string ⟨#[]⟩, .int .i64 0, .int .u64 0, .string ⟨#[]⟩] 85)) := R2.alloc _ rfl
  generalize w2.alloc (.cells #[.int .i64 4, .int .i64 1, .int .i64 0, .int .i64 0, .int .u64 0, .string ⟨#[]⟩, .int .i64 0, .int .u64 0, .string ⟨#[]⟩] 85) = w3 at *
  generalize w2.heap.size = b1 at *
  have HD : Hid (b0 < b1) := hne
  clear R2 hne
  obtain ⟨e0, e1, e2, e3, e4, e5, e6, e7, e8, ez⟩ := cells9 (R3.box (b := b1) (o := .cells #[.int .i64 4, .int .i64 1, .int .i64 0, .int .i64 0, .int .u64 0, .string ⟨#[]⟩, .int .i64 0, .int .u64 0, .string ⟨#[]⟩] 85) (by simp)).1
  have le := (R3.box (b := b1) (o := .cells #[.int .i64 4, .int .i64 1, .int .i64 0, .int .i64 0, .int .u64 0, .string ⟨#[]⟩, .int .i64 0, .int .u64 0, .string ⟨#[]⟩] 85) (by simp)).2
  obtain ⟨r0, r1, r2, r3, r4, r5, rz⟩ := cells6 (R3.box (b := b0) (o := .cells #[.int .i64 xT, .int .u64 (xN : Int), .string ⟨xS.toArray⟩, .int .i64 yT, .int .u64 (yN : Int), .string ⟨yS.toArray⟩] 35) (by simp)).1
  have lr := (R3.box (b := b0) (o := .cells #[.int .i64 xT, .int .u64 (xN : Int), .string ⟨xS.toArray⟩, .int .i64 yT, .int .u64 (yN : Int), .string ⟨yS.toArray⟩] 35) (by simp)).2
  have HC3 := R3.exec HK2.out 1 ⟨xT, xN, xS⟩ ⟨yT, yN, yS⟩ HOK.out.1 HOK.out.2
  rw [HP.out.1] at HC3
  have HC3 : Calls Tryz.prog 37 #[.pointer (some ⟨m, 0, none⟩), .int .i64 1, .agg #[.int .i64 xT, .int .u64 (xN : Int), .string ⟨xS.toArray⟩], .agg #[.int .i64 yT, .int .u64 (yN : Int), .string ⟨yS.toArray⟩]] w3 fun e w' => e = .returned (.agg #[.int .i64 3, .int .i64 0, .int .i64 0, .int .i64 xT, .int .u64 (xN : Int), .string ⟨xS.toArray⟩, .int .i64 0, .int .u64 0, .string ⟨#[]⟩]) ∧ RL own W m a nb tp [(b1, .cells #[.int .i64 4, .int .i64 1, .int .i64 0, .int .i64 0, .int .u64 0, .string ⟨#[]⟩, .int .i64 0, .int .u64 0, .string ⟨#[]⟩] 85), (b0, .cells #[.int .i64 xT, .int .u64 (xN : Int), .string ⟨xS.toArray⟩, .int .i64 yT, .int .u64 (yN : Int), .string ⟨yS.toArray⟩] 35)] M3 w' := HC3
  clear R3
  go_wp2_with fail
  refine HC3.mono ?_; rintro e w4 ⟨rfl, R4⟩
  clear HC3
  clear e0 e1 e2 e3 e4 e5 e6 e7 e8 ez le r0 r1 r2 r3 r4 r5 rz lr
  obtain ⟨e0, e1, e2, e3, e4, e5, e6, e7, e8, ez⟩ := cells9 (R4.box (b := b1) (o := .cells #[.int .i64 4, .int .i64 1, .int .i64 0, .int .i64 0, .int .u64 0, .string ⟨#[]⟩, .int .i64 0, .int .u64 0, .string ⟨#[]⟩] 85) (by simp)).1
  have le := (R4.box (b := b1) (o := .cells #[.int .i64 4, .int .i64 1, .int .i64 0, .int .i64 0, .int .u64 0, .string ⟨#[]⟩, .int .i64 0, .int .u64 0, .string ⟨#[]⟩] 85) (by simp)).2
  obtain ⟨r0, r1, r2, r3, r4, r5, rz⟩ := cells6 (R4.box (b := b0) (o := .cells #[.int .i64 xT, .int .u64 (xN : Int), .string ⟨xS.toArray⟩, .int .i64 yT, .int .u64 (yN : Int), .string ⟨yS.toArray⟩] 35) (by simp)).1
  have lr := (R4.box (b := b0) (o := .cells #[.int .i64 xT, .int .u64 (xN : Int), .string ⟨xS.toArray⟩, .int .i64 yT, .int .u64 (yN : Int), .string ⟨yS.toArray⟩] 35) (by simp)).2
  have R5 : RL own W m a nb tp [(b1, .cells #[.int .i64 3, .int .i64 0, .int .i64 0, .int .i64 xT, .int .u64 (xN : Int), .string ⟨xS.toArray⟩, .int .i64 0, .int .u64 0, .string ⟨#[]⟩] 85), (b0, .cells #[.int .i64 xT, .int .u64 (xN : Int), .string ⟨xS.toArray⟩, .int .i64 yT, .int .u64 (yN : Int), .string ⟨yS.toArray⟩] 35)] M3 (((((((((w4.setCell ⟨b1, 0, none⟩ (.int .i64 3)).setCell ⟨b1, 1, none⟩ (.int .i64 0)).setCell ⟨b1, 2, none⟩ (.int .i64 0)).setCell ⟨b1, 3, none⟩ (.int .i64 xT)).setCell ⟨b1, 4, none⟩ (.int .u64 (xN : Int))).setCell ⟨b1, 5, none⟩ (.string ⟨xS.toArray⟩)).setCell ⟨b1, 6, none⟩ (.int .i64 0)).setCell ⟨b1, 7, none⟩ (.int .u64 0)).setCell ⟨b1, 8, none⟩ (.string ⟨#[]⟩)) := R4.setE (n := b1) (by first | exact List.mem_cons_self | exact List.mem_cons_of_mem _ List.mem_cons_self) (B' := [(b0, .cells #[.int .i64 xT, .int .u64 (xN : Int), .string ⟨xS.toArray⟩, .int .i64 yT, .int .u64 (yN : Int), .string ⟨yS.toArray⟩] 35)]) (fun p hp => by
    have hd := HD.out
    rw [List.mem_singleton] at hp
    subst hp
    exact ⟨by simp, by show b0 ≠ b1; omega⟩) (.int .i64 3) (.int .i64 0) (.int .i64 0) (.int .i64 xT) (.int .u64 (xN : Int)) (.string ⟨xS.toArray⟩) (.int .i64 0) (.int .u64 0) (.string ⟨#[]⟩)
  clear R4
  go_upto_region 6 with fail
  clear e0 e1 e2 e3 e4 e5 e6 e7 e8 ez le r0 r1 r2 r3 r4 r5 rz lr
  generalize (((((((((w4.setCell ⟨b1, 0, none⟩ (.int .i64 3)).setCell ⟨b1, 1, none⟩ (.int .i64 0)).setCell ⟨b1, 2, none⟩ (.int .i64 0)).setCell ⟨b1, 3, none⟩ (.int .i64 xT)).setCell ⟨b1, 4, none⟩ (.int .u64 (xN : Int))).setCell ⟨b1, 5, none⟩ (.string ⟨xS.toArray⟩)).setCell ⟨b1, 6, none⟩ (.int .i64 0)).setCell ⟨b1, 7, none⟩ (.int .u64 0)).setCell ⟨b1, 8, none⟩ (.string ⟨#[]⟩)) = w5 at *
  obtain ⟨e0, e1, e2, e3, e4, e5, e6, e7, e8, ez⟩ := cells9 (R5.box (b := b1) (o := .cells #[.int .i64 3, .int .i64 0, .int .i64 0, .int .i64 xT, .int .u64 (xN : Int), .string ⟨xS.toArray⟩, .int .i64 0, .int .u64 0, .string ⟨#[]⟩] 85) (by simp)).1
  have le := (R5.box (b := b1) (o := .cells #[.int .i64 3, .int .i64 0, .int .i64 0, .int .i64 xT, .int .u64 (xN : Int), .string ⟨xS.toArray⟩, .int .i64 0, .int .u64 0, .string ⟨#[]⟩] 85) (by simp)).2
  obtain ⟨r0, r1, r2, r3, r4, r5, rz⟩ := cells6 (R5.box (b := b0) (o := .cells #[.int .i64 xT, .int .u64 (xN : Int), .string ⟨xS.toArray⟩, .int .i64 yT, .int .u64 (yN : Int), .string ⟨yS.toArray⟩] 35) (by simp)).1
  have lr := (R5.box (b := b0) (o := .cells #[.int .i64 xT, .int .u64 (xN : Int), .string ⟨xS.toArray⟩, .int .i64 yT, .int .u64 (yN : Int), .string ⟨yS.toArray⟩] 35) (by simp)).2
  go_wp2_with fail
  refine (HFX.out _).mono ?_; rintro e w6 ⟨rfl, hb6⟩
  have R6 := R5.below hb6
  clear R5 hb6
  clear e0 e1 e2 e3 e4 e5 e6 e7 e8 ez le r0 r1 r2 r3 r4 r5 rz lr
  obtain ⟨e0, e1, e2, e3, e4, e5, e6, e7, e8, ez⟩ := cells9 (R6.box (b := b1) (o := .cells #[.int .i64 3, .int .i64 0, .int .i64 0, .int .i64 xT, .int .u64 (xN : Int), .string ⟨xS.toArray⟩, .int .i64 0, .int .u64 0, .string ⟨#[]⟩] 85) (by simp)).1
  have le := (R6.box (b := b1) (o := .cells #[.int .i64 3, .int .i64 0, .int .i64 0, .int .i64 xT, .int .u64 (xN : Int), .string ⟨xS.toArray⟩, .int .i64 0, .int .u64 0, .string ⟨#[]⟩] 85) (by simp)).2
  obtain ⟨r0, r1, r2, r3, r4, r5, rz⟩ := cells6 (R6.box (b := b0) (o := .cells #[.int .i64 xT, .int .u64 (xN : Int), .string ⟨xS.toArray⟩, .int .i64 yT, .int .u64 (yN : Int), .string ⟨yS.toArray⟩] 35) (by simp)).1
  have lr := (R6.box (b := b0) (o := .cells #[.int .i64 xT, .int .u64 (xN : Int), .string ⟨xS.toArray⟩, .int .i64 yT, .int .u64 (yN : Int), .string ⟨yS.toArray⟩] 35) (by simp)).2
  go_wp2_with fail
  refine (HFY.out _).mono ?_; rintro e w7 ⟨rfl, hb7⟩
  have R7 := R6.below hb7
  clear R6 hb7
  clear e0 e1 e2 e3 e4 e5 e6 e7 e8 ez le r0 r1 r2 r3 r4 r5 rz lr
  obtain ⟨e0, e1, e2, e3, e4, e5, e6, e7, e8, ez⟩ := cells9 (R7.box (b := b1) (o := .cells #[.int .i64 3, .int .i64 0, .int .i64 0, .int .i64 xT, .int .u64 (xN : Int), .string ⟨xS.toArray⟩, .int .i64 0, .int .u64 0, .string ⟨#[]⟩] 85) (by simp)).1
  have le := (R7.box (b := b1) (o := .cells #[.int .i64 3, .int .i64 0, .int .i64 0, .int .i64 xT, .int .u64 (xN : Int), .string ⟨xS.toArray⟩, .int .i64 0, .int .u64 0, .string ⟨#[]⟩] 85) (by simp)).2
  obtain ⟨r0, r1, r2, r3, r4, r5, rz⟩ := cells6 (R7.box (b := b0) (o := .cells #[.int .i64 xT, .int .u64 (xN : Int), .string ⟨xS.toArray⟩, .int .i64 yT, .int .u64 (yN : Int), .string ⟨yS.toArray⟩] 35) (by simp)).1
  have lr := (R7.box (b := b0) (o := .cells #[.int .i64 xT, .int .u64 (xN : Int), .string ⟨xS.toArray⟩, .int .i64 yT, .int .u64 (yN : Int), .string ⟨yS.toArray⟩] 35) (by simp)).2
  have HC4 := R7.exec HK.out.1 1 ⟨yT, yN, yS⟩ ⟨xT, xN, xS⟩ HOK.out.2 HOK.out.1
  rw [HP.out.2.1] at HC4
  have HC4 : Calls Tryz.prog 37 #[.pointer (some ⟨m, 0, none⟩), .int .i64 1, .agg #[.int .i64 yT, .int .u64 (yN : Int), .string ⟨yS.toArray⟩], .agg #[.int .i64 xT, .int .u64 (xN : Int), .string ⟨xS.toArray⟩]] w7 fun e w' => e = .returned (.agg #[.int .i64 1, .int .i64 0, .int .i64 0, .int .i64 1, .int .u64 0, .string ⟨#[]⟩, .int .i64 yT, .int .u64 (yN : Int), .string ⟨yS.toArray⟩]) ∧ RL own W m a nb tp [(b1, .cells #[.int .i64 3, .int .i64 0, .int .i64 0, .int .i64 xT, .int .u64 (xN : Int), .string ⟨xS.toArray⟩, .int .i64 0, .int .u64 0, .string ⟨#[]⟩] 85), (b0, .cells #[.int .i64 xT, .int .u64 (xN : Int), .string ⟨xS.toArray⟩, .int .i64 yT, .int .u64 (yN : Int), .string ⟨yS.toArray⟩] 35)] M4 w' := HC4
  clear R7
  go_wp2_with fail
  refine HC4.mono ?_; rintro e w8 ⟨rfl, R8⟩
  clear HC4
  clear e0 e1 e2 e3 e4 e5 e6 e7 e8 ez le r0 r1 r2 r3 r4 r5 rz lr
  obtain ⟨e0, e1, e2, e3, e4, e5, e6, e7, e8, ez⟩ := cells9 (R8.box (b := b1) (o := .cells #[.int .i64 3, .int .i64 0, .int .i64 0, .int .i64 xT, .int .u64 (xN : Int), .string ⟨xS.toArray⟩, .int .i64 0, .int .u64 0, .string ⟨#[]⟩] 85) (by simp)).1
  have le := (R8.box (b := b1) (o := .cells #[.int .i64 3, .int .i64 0, .int .i64 0, .int .i64 xT, .int .u64 (xN : Int), .string ⟨xS.toArray⟩, .int .i64 0, .int .u64 0, .string ⟨#[]⟩] 85) (by simp)).2
  obtain ⟨r0, r1, r2, r3, r4, r5, rz⟩ := cells6 (R8.box (b := b0) (o := .cells #[.int .i64 xT, .int .u64 (xN : Int), .string ⟨xS.toArray⟩, .int .i64 yT, .int .u64 (yN : Int), .string ⟨yS.toArray⟩] 35) (by simp)).1
  have lr := (R8.box (b := b0) (o := .cells #[.int .i64 xT, .int .u64 (xN : Int), .string ⟨xS.toArray⟩, .int .i64 yT, .int .u64 (yN : Int), .string ⟨yS.toArray⟩] 35) (by simp)).2
  have R9 : RL own W m a nb tp [(b1, .cells #[.int .i64 1, .int .i64 0, .int .i64 0, .int .i64 1, .int .u64 0, .string ⟨#[]⟩, .int .i64 yT, .int .u64 (yN : Int), .string ⟨yS.toArray⟩] 85), (b0, .cells #[.int .i64 xT, .int .u64 (xN : Int), .string ⟨xS.toArray⟩, .int .i64 yT, .int .u64 (yN : Int), .string ⟨yS.toArray⟩] 35)] M4 (((((((((w8.setCell ⟨b1, 0, none⟩ (.int .i64 1)).setCell ⟨b1, 1, none⟩ (.int .i64 0)).setCell ⟨b1, 2, none⟩ (.int .i64 0)).setCell ⟨b1, 3, none⟩ (.int .i64 1)).setCell ⟨b1, 4, none⟩ (.int .u64 0)).setCell ⟨b1, 5, none⟩ (.string ⟨#[]⟩)).setCell ⟨b1, 6, none⟩ (.int .i64 yT)).setCell ⟨b1, 7, none⟩ (.int .u64 (yN : Int))).setCell ⟨b1, 8, none⟩ (.string ⟨yS.toArray⟩)) := R8.setE (n := b1) (by first | exact List.mem_cons_self | exact List.mem_cons_of_mem _ List.mem_cons_self) (B' := [(b0, .cells #[.int .i64 xT, .int .u64 (xN : Int), .string ⟨xS.toArray⟩, .int .i64 yT, .int .u64 (yN : Int), .string ⟨yS.toArray⟩] 35)]) (fun p hp => by
    have hd := HD.out
    rw [List.mem_singleton] at hp
    subst hp
    exact ⟨by simp, by show b0 ≠ b1; omega⟩) (.int .i64 1) (.int .i64 0) (.int .i64 0) (.int .i64 1) (.int .u64 0) (.string ⟨#[]⟩) (.int .i64 yT) (.int .u64 (yN : Int)) (.string ⟨yS.toArray⟩)
  clear R8
  go_upto_region 13 with fail
  clear e0 e1 e2 e3 e4 e5 e6 e7 e8 ez le r0 r1 r2 r3 r4 r5 rz lr
  generalize (((((((((w8.setCell ⟨b1, 0, none⟩ (.int .i64 1)).setCell ⟨b1, 1, none⟩ (.int .i64 0)).setCell ⟨b1, 2, none⟩ (.int .i64 0)).setCell ⟨b1, 3, none⟩ (.int .i64 1)).setCell ⟨b1, 4, none⟩ (.int .u64 0)).setCell ⟨b1, 5, none⟩ (.string ⟨#[]⟩)).setCell ⟨b1, 6, none⟩ (.int .i64 yT)).setCell ⟨b1, 7, none⟩ (.int .u64 (yN : Int))).setCell ⟨b1, 8, none⟩ (.string ⟨yS.toArray⟩)) = w9 at *
  obtain ⟨e0, e1, e2, e3, e4, e5, e6, e7, e8, ez⟩ := cells9 (R9.box (b := b1) (o := .cells #[.int .i64 1, .int .i64 0, .int .i64 0, .int .i64 1, .int .u64 0, .string ⟨#[]⟩, .int .i64 yT, .int .u64 (yN : Int), .string ⟨yS.toArray⟩] 85) (by simp)).1
  have le := (R9.box (b := b1) (o := .cells #[.int .i64 1, .int .i64 0, .int .i64 0, .int .i64 1, .int .u64 0, .string ⟨#[]⟩, .int .i64 yT, .int .u64 (yN : Int), .string ⟨yS.toArray⟩] 85) (by simp)).2
  obtain ⟨r0, r1, r2, r3, r4, r5, rz⟩ := cells6 (R9.box (b := b0) (o := .cells #[.int .i64 xT, .int .u64 (xN : Int), .string ⟨xS.toArray⟩, .int .i64 yT, .int .u64 (yN : Int), .string ⟨yS.toArray⟩] 35) (by simp)).1
  have lr := (R9.box (b := b0) (o := .cells #[.int .i64 xT, .int .u64 (xN : Int), .string ⟨xS.toArray⟩, .int .i64 yT, .int .u64 (yN : Int), .string ⟨yS.toArray⟩] 35) (by simp)).2
  go_wp2_with fail
  refine (HTY.out _).mono ?_; rintro e w10 ⟨rfl, hb10⟩
  have R10 := R9.below hb10
  clear R9 hb10
  clear e0 e1 e2 e3 e4 e5 e6 e7 e8 ez le r0 r1 r2 r3 r4 r5 rz lr
  have HBO : Calls Tryz.prog 40 #[.bool false] w10 fun e w' => e = .returned (.agg #[.int .i64 1, .int .u64 0, .string ⟨#[]⟩]) ∧ Below w10.heap.size w10 w' := bool_any false w10
  go_wp2_with fail
  refine HBO.mono ?_; rintro e w11 ⟨rfl, hb11⟩
  have R11 := R10.below hb11
  have hne : b1 < w11.heap.size := (R11.box (b := b1) (o := .cells #[.int .i64 1, .int .i64 0, .int .i64 0, .int .i64 1, .int .u64 0, .string ⟨#[]⟩, .int .i64 yT, .int .u64 (yN : Int), .string ⟨yS.toArray⟩] 85) (by simp)).2
  clear R10 hb11 HBO
  go_upto_region 15 with fail
  have R12 : RL own W m a nb tp [(w11.heap.size, .cells #[.int .i64 1, .int .u64 0, .string ⟨#[]⟩] 33), (b1, .cells #[.int .i64 1, .int .i64 0, .int .i64 0, .int .i64 1, .int .u64 0, .string ⟨#[]⟩, .int .i64 yT, .int .u64 (yN : Int), .string ⟨yS.toArray⟩] 85), (b0, .cells #[.int .i64 xT, .int .u64 (xN : Int), .string ⟨xS.toArray⟩, .int .i64 yT, .int .u64 (yN : Int), .string ⟨yS.toArray⟩] 35)] M4 (w11.alloc (.cells #[.int .i64 1, .int .u64 0, .string ⟨#[]⟩] 33)) := R11.alloc _ rfl
  generalize w11.alloc (.cells #[.int .i64 1, .int .u64 0, .string ⟨#[]⟩] 33) = w12 at *
  generalize w11.heap.size = b2 at *
  have HD : Hid (b0 < b1 ∧ b1 < b2) := ⟨HD.out, hne⟩
  clear R11 hne
  obtain ⟨c0, c1, c2, cz⟩ := cells3 (R12.box (b := b2) (o := .cells #[.int .i64 1, .int .u64 0, .string ⟨#[]⟩] 33) (by simp)).1
  have lc := (R12.box (b := b2) (o := .cells #[.int .i64 1, .int .u64 0, .string ⟨#[]⟩] 33) (by simp)).2
  obtain ⟨e0, e1, e2, e3, e4, e5, e6, e7, e8, ez⟩ := cells9 (R12.box (b := b1) (o := .cells #[.int .i64 1, .int .i64 0, .int .i64 0, .int .i64 1, .int .u64 0, .string ⟨#[]⟩, .int .i64 yT, .int .u64 (yN : Int), .string ⟨yS.toArray⟩] 85) (by simp)).1
  have le := (R12.box (b := b1) (o := .cells #[.int .i64 1, .int .i64 0, .int .i64 0, .int .i64 1, .int .u64 0, .string ⟨#[]⟩, .int .i64 yT, .int .u64 (yN : Int), .string ⟨yS.toArray⟩] 85) (by simp)).2
  obtain ⟨r0, r1, r2, r3, r4, r5, rz⟩ := cells6 (R12.box (b := b0) (o := .cells #[.int .i64 xT, .int .u64 (xN : Int), .string ⟨xS.toArray⟩, .int .i64 yT, .int .u64 (yN : Int), .string ⟨yS.toArray⟩] 35) (by simp)).1
  have lr := (R12.box (b := b0) (o := .cells #[.int .i64 xT, .int .u64 (xN : Int), .string ⟨xS.toArray⟩, .int .i64 yT, .int .u64 (yN : Int), .string ⟨yS.toArray⟩] 35) (by simp)).2
  have HC5 := R12.exec HK.out.2 0 ⟨xT, xN, xS⟩ ⟨yT, yN, yS⟩ HOK.out.1 HOK.out.2
  rw [HP.out.2.2.1, HP.out.2.2.2.2] at HC5
  have HC5 : Calls Tryz.prog 37 #[.pointer (some ⟨m, 0, none⟩), .int .i64 0, .agg #[.int .i64 xT, .int .u64 (xN : Int), .string ⟨xS.toArray⟩], .agg #[.int .i64 yT, .int .u64 (yN : Int), .string ⟨yS.toArray⟩]] w12 fun e w' => e = .returned (.agg #[.int .i64 1, .int .i64 0, .int .i64 0, .int .i64 xT, .int .u64 (xN : Int), .string ⟨xS.toArray⟩, .int .i64 1, .int .u64 1, .string ⟨#[]⟩]) ∧ RL own W m a nb tp [(b2, .cells #[.int .i64 1, .int .u64 0, .string ⟨#[]⟩] 33), (b1, .cells #[.int .i64 1, .int .i64 0, .int .i64 0, .int .i64 1, .int .u64 0, .string ⟨#[]⟩, .int .i64 yT, .int .u64 (yN : Int), .string ⟨yS.toArray⟩] 85), (b0, .cells #[.int .i64 xT, .int .u64 (xN : Int), .string ⟨xS.toArray⟩, .int .i64 yT, .int .u64 (yN : Int), .string ⟨yS.toArray⟩] 35)] M5 w' := HC5
  clear R12
  go_wp2_with fail
  refine HC5.mono ?_; rintro e w13 ⟨rfl, R13⟩
  clear HC5
  clear c0 c1 c2 cz lc e0 e1 e2 e3 e4 e5 e6 e7 e8 ez le r0 r1 r2 r3 r4 r5 rz lr
  obtain ⟨c0, c1, c2, cz⟩ := cells3 (R13.box (b := b2) (o := .cells #[.int .i64 1, .int .u64 0, .string ⟨#[]⟩] 33) (by simp)).1
  have lc := (R13.box (b := b2) (o := .cells #[.int .i64 1, .int .u64 0, .string ⟨#[]⟩] 33) (by simp)).2
  obtain ⟨e0, e1, e2, e3, e4, e5, e6, e7, e8, ez⟩ := cells9 (R13.box (b := b1) (o := .cells #[.int .i64 1, .int .i64 0, .int .i64 0, .int .i64 1, .int .u64 0, .string ⟨#[]⟩, .int .i64 yT, .int .u64 (yN : Int), .string ⟨yS.toArray⟩] 85) (by simp)).1
  have le := (R13.box (b := b1) (o := .cells #[.int .i64 1, .int .i64 0, .int .i64 0, .int .i64 1, .int .u64 0, .string ⟨#[]⟩, .int .i64 yT, .int .u64 (yN : Int), .string ⟨yS.toArray⟩] 85) (by simp)).2
  obtain ⟨r0, r1, r2, r3, r4, r5, rz⟩ := cells6 (R13.box (b := b0) (o := .cells #[.int .i64 xT, .int .u64 (xN : Int), .string ⟨xS.toArray⟩, .int .i64 yT, .int .u64 (yN : Int), .string ⟨yS.toArray⟩] 35) (by simp)).1
  have lr := (R13.box (b := b0) (o := .cells #[.int .i64 xT, .int .u64 (xN : Int), .string ⟨xS.toArray⟩, .int .i64 yT, .int .u64 (yN : Int), .string ⟨yS.toArray⟩] 35) (by simp)).2
  have R14 : RL own W m a nb tp [(b1, .cells #[.int .i64 1, .int .i64 0, .int .i64 0, .int .i64 xT, .int .u64 (xN : Int), .string ⟨xS.toArray⟩, .int .i64 1, .int .u64 1, .string ⟨#[]⟩] 85), (b2, .cells #[.int .i64 1, .int .u64 0, .string ⟨#[]⟩] 33), (b0, .cells #[.int .i64 xT, .int .u64 (xN : Int), .string ⟨xS.toArray⟩, .int .i64 yT, .int .u64 (yN : Int), .string ⟨yS.toArray⟩] 35)] M5 (((((((((w13.setCell ⟨b1, 0, none⟩ (.int .i64 1)).setCell ⟨b1, 1, none⟩ (.int .i64 0)).setCell ⟨b1, 2, none⟩ (.int .i64 0)).setCell ⟨b1, 3, none⟩ (.int .i64 xT)).setCell ⟨b1, 4, none⟩ (.int .u64 (xN : Int))).setCell ⟨b1, 5, none⟩ (.string ⟨xS.toArray⟩)).setCell ⟨b1, 6, none⟩ (.int .i64 1)).setCell ⟨b1, 7, none⟩ (.int .u64 1)).setCell ⟨b1, 8, none⟩ (.string ⟨#[]⟩)) := R13.setE (n := b1) (by first | exact List.mem_cons_self | exact List.mem_cons_of_mem _ List.mem_cons_self) (B' := [(b2, .cells #[.int .i64 1, .int .u64 0, .string ⟨#[]⟩] 33), (b0, .cells #[.int .i64 xT, .int .u64 (xN : Int), .string ⟨xS.toArray⟩, .int .i64 yT, .int .u64 (yN : Int), .string ⟨yS.toArray⟩] 35)]) (fun p hp => by
    simp only [List.mem_cons, List.not_mem_nil, or_false] at hp
    have hd := HD.out
    rcases hp with rfl | rfl
    · exact ⟨by simp, by show b2 ≠ b1; omega⟩
    · exact ⟨by simp, by show b0 ≠ b1; omega⟩
    ) (.int .i64 1) (.int .i64 0) (.int .i64 0) (.int .i64 xT) (.int .u64 (xN : Int)) (.string ⟨xS.toArray⟩) (.int .i64 1) (.int .u64 1) (.string ⟨#[]⟩)
  clear R13
  go_upto_region 18 with fail
  clear c0 c1 c2 cz lc e0 e1 e2 e3 e4 e5 e6 e7 e8 ez le r0 r1 r2 r3 r4 r5 rz lr
  generalize (((((((((w13.setCell ⟨b1, 0, none⟩ (.int .i64 1)).setCell ⟨b1, 1, none⟩ (.int .i64 0)).setCell ⟨b1, 2, none⟩ (.int .i64 0)).setCell ⟨b1, 3, none⟩ (.int .i64 xT)).setCell ⟨b1, 4, none⟩ (.int .u64 (xN : Int))).setCell ⟨b1, 5, none⟩ (.string ⟨xS.toArray⟩)).setCell ⟨b1, 6, none⟩ (.int .i64 1)).setCell ⟨b1, 7, none⟩ (.int .u64 1)).setCell ⟨b1, 8, none⟩ (.string ⟨#[]⟩)) = w14 at *
  obtain ⟨e0, e1, e2, e3, e4, e5, e6, e7, e8, ez⟩ := cells9 (R14.box (b := b1) (o := .cells #[.int .i64 1, .int .i64 0, .int .i64 0, .int .i64 xT, .int .u64 (xN : Int), .string ⟨xS.toArray⟩, .int .i64 1, .int .u64 1, .string ⟨#[]⟩] 85) (by simp)).1
  have le := (R14.box (b := b1) (o := .cells #[.int .i64 1, .int .i64 0, .int .i64 0, .int .i64 xT, .int .u64 (xN : Int), .string ⟨xS.toArray⟩, .int .i64 1, .int .u64 1, .string ⟨#[]⟩] 85) (by simp)).2
  obtain ⟨c0, c1, c2, cz⟩ := cells3 (R14.box (b := b2) (o := .cells #[.int .i64 1, .int .u64 0, .string ⟨#[]⟩] 33) (by simp)).1
  have lc := (R14.box (b := b2) (o := .cells #[.int .i64 1, .int .u64 0, .string ⟨#[]⟩] 33) (by simp)).2
  obtain ⟨r0, r1, r2, r3, r4, r5, rz⟩ := cells6 (R14.box (b := b0) (o := .cells #[.int .i64 xT, .int .u64 (xN : Int), .string ⟨xS.toArray⟩, .int .i64 yT, .int .u64 (yN : Int), .string ⟨yS.toArray⟩] 35) (by simp)).1
  have lr := (R14.box (b := b0) (o := .cells #[.int .i64 xT, .int .u64 (xN : Int), .string ⟨xS.toArray⟩, .int .i64 yT, .int .u64 (yN : Int), .string ⟨yS.toArray⟩] 35) (by simp)).2
  have hne : b2 < w14.heap.size := (R14.box (b := b2) (o := .cells #[.int .i64 1, .int .u64 0, .string ⟨#[]⟩] 33) (by simp)).2
  go_upto_region 19 with fail
  clear c0 c1 c2 cz lc e0 e1 e2 e3 e4 e5 e6 e7 e8 ez le r0 r1 r2 r3 r4 r5 rz lr
  have R15 : RL own W m a nb tp [(w14.heap.size, .cells #[.int .i64 xT, .int .u64 (xN : Int), .string ⟨xS.toArray⟩] 33), (b1, .cells #[.int .i64 1, .int .i64 0, .int .i64 0, .int .i64 xT, .int .u64 (xN : Int), .string ⟨xS.toArray⟩, .int .i64 1, .int .u64 1, .string ⟨#[]⟩] 85), (b2, .cells #[.int .i64 1, .int .u64 0, .string ⟨#[]⟩] 33), (b0, .cells #[.int .i64 xT, .int .u64 (xN : Int), .string ⟨xS.toArray⟩, .int .i64 yT, .int .u64 (yN : Int), .string ⟨yS.toArray⟩] 35)] M5 (w14.alloc (.cells #[.int .i64 xT, .int .u64 (xN : Int), .string ⟨xS.toArray⟩] 33)) := R14.alloc _ rfl
  generalize w14.alloc (.cells #[.int .i64 xT, .int .u64 (xN : Int), .string ⟨xS.toArray⟩] 33) = w15 at *
  generalize w14.heap.size = b3 at *
  have HD : Hid (b0 < b1 ∧ b1 < b2 ∧ b2 < b3) := ⟨HD.out.1, HD.out.2, hne⟩
  clear R14 hne
  obtain ⟨n0, n1, n2, nz⟩ := cells3 (R15.box (b := b3) (o := .cells #[.int .i64 xT, .int .u64 (xN : Int), .string ⟨xS.toArray⟩] 33) (by simp)).1
  have ln := (R15.box (b := b3) (o := .cells #[.int .i64 xT, .int .u64 (xN : Int), .string ⟨xS.toArray⟩] 33) (by simp)).2
  obtain ⟨e0, e1, e2, e3, e4, e5, e6, e7, e8, ez⟩ := cells9 (R15.box (b := b1) (o := .cells #[.int .i64 1, .int .i64 0, .int .i64 0, .int .i64 xT, .int .u64 (xN : Int), .string ⟨xS.toArray⟩, .int .i64 1, .int .u64 1, .string ⟨#[]⟩] 85) (by simp)).1
  have le := (R15.box (b := b1) (o := .cells #[.int .i64 1, .int .i64 0, .int .i64 0, .int .i64 xT, .int .u64 (xN : Int), .string ⟨xS.toArray⟩, .int .i64 1, .int .u64 1, .string ⟨#[]⟩] 85) (by simp)).2
  obtain ⟨c0, c1, c2, cz⟩ := cells3 (R15.box (b := b2) (o := .cells #[.int .i64 1, .int .u64 0, .string ⟨#[]⟩] 33) (by simp)).1
  have lc := (R15.box (b := b2) (o := .cells #[.int .i64 1, .int .u64 0, .string ⟨#[]⟩] 33) (by simp)).2
  obtain ⟨r0, r1, r2, r3, r4, r5, rz⟩ := cells6 (R15.box (b := b0) (o := .cells #[.int .i64 xT, .int .u64 (xN : Int), .string ⟨xS.toArray⟩, .int .i64 yT, .int .u64 (yN : Int), .string ⟨yS.toArray⟩] 35) (by simp)).1
  have lr := (R15.box (b := b0) (o := .cells #[.int .i64 xT, .int .u64 (xN : Int), .string ⟨xS.toArray⟩, .int .i64 yT, .int .u64 (yN : Int), .string ⟨yS.toArray⟩] 35) (by simp)).2
  go_wp2_with fail
  refine (HTX.out _).mono ?_; rintro e w16 ⟨rfl, hb16⟩
  have R16 := R15.below hb16
  clear R15 hb16
  clear n0 n1 n2 nz ln e0 e1 e2 e3 e4 e5 e6 e7 e8 ez le c0 c1 c2 cz lc r0 r1 r2 r3 r4 r5 rz lr
  obtain ⟨n0, n1, n2, nz⟩ := cells3 (R16.box (b := b3) (o := .cells #[.int .i64 xT, .int .u64 (xN : Int), .string ⟨xS.toArray⟩] 33) (by simp)).1
  have ln := (R16.box (b := b3) (o := .cells #[.int .i64 xT, .int .u64 (xN : Int), .string ⟨xS.toArray⟩] 33) (by simp)).2
  obtain ⟨e0, e1, e2, e3, e4, e5, e6, e7, e8, ez⟩ := cells9 (R16.box (b := b1) (o := .cells #[.int .i64 1, .int .i64 0, .int .i64 0, .int .i64 xT, .int .u64 (xN : Int), .string ⟨xS.toArray⟩, .int .i64 1, .int .u64 1, .string ⟨#[]⟩] 85) (by simp)).1
  have le := (R16.box (b := b1) (o := .cells #[.int .i64 1, .int .i64 0, .int .i64 0, .int .i64 xT, .int .u64 (xN : Int), .string ⟨xS.toArray⟩, .int .i64 1, .int .u64 1, .string ⟨#[]⟩] 85) (by simp)).2
  obtain ⟨c0, c1, c2, cz⟩ := cells3 (R16.box (b := b2) (o := .cells #[.int .i64 1, .int .u64 0, .string ⟨#[]⟩] 33) (by simp)).1
  have lc := (R16.box (b := b2) (o := .cells #[.int .i64 1, .int .u64 0, .string ⟨#[]⟩] 33) (by simp)).2
  obtain ⟨r0, r1, r2, r3, r4, r5, rz⟩ := cells6 (R16.box (b := b0) (o := .cells #[.int .i64 xT, .int .u64 (xN : Int), .string ⟨xS.toArray⟩, .int .i64 yT, .int .u64 (yN : Int), .string ⟨yS.toArray⟩] 35) (by simp)).1
  have lr := (R16.box (b := b0) (o := .cells #[.int .i64 xT, .int .u64 (xN : Int), .string ⟨xS.toArray⟩, .int .i64 yT, .int .u64 (yN : Int), .string ⟨yS.toArray⟩] 35) (by simp)).2
  have HF := R16.fuel
  rw [HP.out.2.2.2.1] at HF
  have HF : Calls Tryz.prog 23 #[.pointer (some ⟨m, 0, none⟩)] w16 fun e w' => e = .returned (.int .i64 4) ∧ w' = w16 := HF
  have HNX : Hid (∃ M', Nx own W m a nb tp M' w16) := ⟨_, R16.nx⟩
  clear R16
  go_wp2_with fail
  refine HF.mono ?_; rintro e w18 ⟨rfl, hq⟩; have hq := hq.symm; subst hq
  clear HF
  go_wp2_with fail
  go_ret
  exact ⟨by simp, HNX.out⟩

set_option maxRecDepth 8000 in
set_option maxHeartbeats 1600000 in
theorem probe_g11 {own : Nat → Nat} {W : World} {m a nb tp : Nat} {M : Mc} (HV : Vm own W m a nb tp M) (x y : V) (hx : x.Ok) (hy : y.Ok) (hf : fitP x = true) (hg : fitP y = true) (hty : truthy y = true) (htx : truthy x = true) : Calls Tryz.prog 21 #[.pointer (some ⟨m, 0, none⟩), regV x y] W fun e w' => e = .returned (.bool true) ∧ ∃ M', Nx own W m a nb tp M' w' := by
  have P2 := play2 x y hf hg
  have P3 := play3 x y hf hg
  obtain ⟨P4, P5⟩ := play4 x y hf hg
  rw [hty] at P3 P5
  rw [htx] at P4
  have K3 : Rest (cM3 x) := by have h := (exec_ev cM2_rest 1 hx.N hy.N).2.2; rw [P2] at h; dsimp only at h; exact h
  have K4 : Rest (cM4 x y) := by have h := (exec_ev K3 1 hy.N hx.N).2.2; rw [P3] at h; dsimp only at h; exact h
  have HTX := fun w => truthy_any x w
  have HTY := fun w => truthy_any y w
  have HFX := fun w => fit_any x w hx
  have HFY := fun w => fit_any y w hy
  rw [hf] at HFX
  rw [hg] at HFY
  rw [htx] at HTX
  rw [hty] at HTY
  generalize cM3 x = M3 at *
  generalize cM4 x y = M4 at *
  generalize hM5 : (execP M4 0 x y).1 = M5 at P5
  obtain ⟨xT, xN, xS⟩ := x
  obtain ⟨yT, yN, yS⟩ := y
  have HTX : Hid (∀ w, Calls Tryz.prog 39 #[.agg #[.int .i64 xT, .int .u64 (xN : Int), .string ⟨xS.toArray⟩]] w fun e w' => e = .returned (.bool true) ∧ Below w.heap.size w w') := HTX
  have HTY : Hid (∀ w, Calls Tryz.prog 39 #[.agg #[.int .i64 yT, .int .u64 (yN : Int), .string ⟨yS.toArray⟩]] w fun e w' => e = .returned (.bool true) ∧ Below w.heap.size w w') := HTY
  have HFX : Hid (∀ w, Calls Tryz.prog 38 #[.agg #[.int .i64 xT, .int .u64 (xN : Int), .string ⟨xS.toArray⟩]] w fun e w' => e = .returned (.bool true) ∧ Below w.heap.size w w') := HFX
  have HFY : Hid (∀ w, Calls Tryz.prog 38 #[.agg #[.int .i64 yT, .int .u64 (yN : Int), .string ⟨yS.toArray⟩]] w fun e w' => e = .returned (.bool true) ∧ Below w.heap.size w w') := HFY
  have HOK : Hid ((⟨xT, xN, xS⟩ : V).Ok ∧ (⟨yT, yN, yS⟩ : V).Ok) := ⟨hx, hy⟩
  have HP : Hid (execP cM2 1 ⟨xT, xN, xS⟩ ⟨yT, yN, yS⟩ = (M3, ⟨3, 0, 0, ⟨xT, xN, xS⟩, nilV⟩) ∧ execP M3 1 ⟨yT, yN, yS⟩ ⟨xT, xN, xS⟩ = _ ∧ (execP M4 0 ⟨xT, xN, xS⟩ ⟨yT, yN, yS⟩).2 = _ ∧ M5.fuel = _ ∧ (execP M4 0 ⟨xT, xN, xS⟩ ⟨yT, yN, yS⟩).1 = M5) := ⟨P2, P3, P4, P5, hM5⟩
  have HK : Hid (Rest M3 ∧ Rest M4) := ⟨K3, K4⟩
  clear P2 P3 P4 P5 K3 K4 hty htx hf hg hx hy hM5
  have R0 := (RL.start HV).alloc (.cells #[.int .i64 xT, .int .u64 (xN : Int), .string ⟨xS.toArray⟩, .int .i64 yT, .int .u64 (yN : Int), .string ⟨yS.toArray⟩] 35) rfl
  have HC := R0.load catI 9 (by decide) ⟨by decide, by decide⟩
  rw [ca] at HC
  clear HV R0
  show Calls Tryz.prog 21 #[.pointer (some ⟨m, 0, none⟩), .agg #[.int .i64 xT, .int .u64 (xN : Int), .string ⟨xS.toArray⟩, .int .i64 yT, .int .u64 (yN : Int), .string ⟨yS.toArray⟩]] W _
  go_enter Tryz.func21, Tryz.ntmps21
  go_wp2_with fail
  refine HC.mono ?_; rintro e w1 ⟨rfl, R1⟩
  have HC2 := R1.exec (load_keeps catI 9 (by decide)) 0 nilV nilV nilOk2 nilOk2
  rw [cb] at HC2
  have HC2 : Calls Tryz.prog 37 #[.pointer (some ⟨m, 0, none⟩), .int .i64 0, .agg #[.int .i64 0, .int .u64 0, .string ⟨#[]⟩], .agg #[.int .i64 0, .int .u64 0, .string ⟨#[]⟩]] w1 fun e w' => e = .returned (.agg #[.int .i64 4, .int .i64 1, .int .i64 0, .int .i64 0, .int .u64 0, .string ⟨#[]⟩, .int .i64 0, .int .u64 0, .string ⟨#[]⟩]) ∧ RL own W m a nb tp [(W.heap.size, .cells #[.int .i64 xT, .int .u64 (xN : Int), .string ⟨xS.toArray⟩, .int .i64 yT, .int .u64 (yN : Int), .string ⟨yS.toArray⟩] 35)] cM2 w' := HC2
  have HK2 : Hid (Rest cM2) := cM2_rest
  generalize hM2 : cM2 = M2 at *
  clear hM2
  generalize hb0 : W.heap.size = b0 at *
  clear hb0
  obtain ⟨r0, r1, r2, r3, r4, r5, rz⟩ := cells6 (R1.box (b := b0) (o := .cells #[.int .i64 xT, .int .u64 (xN : Int), .string ⟨xS.toArray⟩, .int .i64 yT, .int .u64 (yN : Int), .string ⟨yS.toArray⟩] 35) (by simp)).1
  have lr := (R1.box (b := b0) (o := .cells #[.int .i64 xT, .int .u64 (xN : Int), .string ⟨xS.toArray⟩, .int .i64 yT, .int .u64 (yN : Int), .string ⟨yS.toArray⟩] 35) (by simp)).2
  clear R1 HC
  go_wp2_with fail
  refine HC2.mono ?_; rintro e w2 ⟨rfl, R2⟩
  have hne : b0 < w2.heap.size := (R2.box (b := b0) (o := .cells #[.int .i64 xT, .int .u64 (xN : Int), .string ⟨xS.toArray⟩, .int .i64 yT, .int .u64 (yN : Int), .string ⟨yS.toArray⟩] 35) (by simp)).2
  clear HC2
  clear r0 r1 r2 r3 r4 r5 rz lr
  go_upto_region 3 with fail
  have R3 : RL own W m a nb tp [(w2.heap.size, .cells #[.int .i64 4, .int .i64 1, .int .i64 0, .int .i64 0, .int .u64 0, .string ⟨#[]⟩, .int .i64 0, .int .u64 0, .string ⟨#[]⟩] 85), (b0, .cells #[.int .i64 xT, .int .u64 (xN : Int), .string ⟨xS.toArray⟩, .int .i64 yT, .int .u64 (yN : Int), .string ⟨yS.toArray⟩] 35)] M2 (w2.alloc (.cells #[.int .i64 4, .int .i64 1, .int .i64 0, .int .i64 0, .int .u64 0, .string ⟨#[]⟩, .int .i64 0, .int .u64 0, .string ⟨#[]⟩] 85)) := R2.alloc _ rfl
  generalize w2.alloc (.cells #[.int .i64 4, .int .i64 1, .int .i64 0, .int .i64 0, .int .u64 0, .string ⟨#[]⟩, .int .i64 0, .int .u64 0, .string ⟨#[]⟩] 85) = w3 at *
  generalize w2.heap.size = b1 at *
  have HD : Hid (b0 < b1) := hne
  clear R2 hne
  obtain ⟨e0, e1, e2, e3, e4, e5, e6, e7, e8, ez⟩ := cells9 (R3.box (b := b1) (o := .cells #[.int .i64 4, .int .i64 1, .int .i64 0, .int .i64 0, .int .u64 0, .string ⟨#[]⟩, .int .i64 0, .int .u64 0, .string ⟨#[]⟩] 85) (by simp)).1
  have le := (R3.box (b := b1) (o := .cells #[.int .i64 4, .int .i64 1, .int .i64 0, .int .i64 0, .int .u64 0, .string ⟨#[]⟩, .int .i64 0, .int .u64 0, .string ⟨#[]⟩] 85) (by simp)).2
  obtain ⟨r0, r1, r2, r3, r4, r5, rz⟩ := cells6 (R3.box (b := b0) (o := .cells #[.int .i64 xT, .int .u64 (xN : Int), .string ⟨xS.toArray⟩, .int .i64 yT, .int .u64 (yN : Int), .string ⟨yS.toArray⟩] 35) (by simp)).1
  have lr := (R3.box (b := b0) (o := .cells #[.int .i64 xT, .int .u64 (xN : Int), .string ⟨xS.toArray⟩, .int .i64 yT, .int .u64 (yN : Int), .string ⟨yS.toArray⟩] 35) (by simp)).2
  have HC3 := R3.exec HK2.out 1 ⟨xT, xN, xS⟩ ⟨yT, yN, yS⟩ HOK.out.1 HOK.out.2
  rw [HP.out.1] at HC3
  have HC3 : Calls Tryz.prog 37 #[.pointer (some ⟨m, 0, none⟩), .int .i64 1, .agg #[.int .i64 xT, .int .u64 (xN : Int), .string ⟨xS.toArray⟩], .agg #[.int .i64 yT, .int .u64 (yN : Int), .string ⟨yS.toArray⟩]] w3 fun e w' => e = .returned (.agg #[.int .i64 3, .int .i64 0, .int .i64 0, .int .i64 xT, .int .u64 (xN : Int), .string ⟨xS.toArray⟩, .int .i64 0, .int .u64 0, .string ⟨#[]⟩]) ∧ RL own W m a nb tp [(b1, .cells #[.int .i64 4, .int .i64 1, .int .i64 0, .int .i64 0, .int .u64 0, .string ⟨#[]⟩, .int .i64 0, .int .u64 0, .string ⟨#[]⟩] 85), (b0, .cells #[.int .i64 xT, .int .u64 (xN : Int), .string ⟨xS.toArray⟩, .int .i64 yT, .int .u64 (yN : Int), .string ⟨yS.toArray⟩] 35)] M3 w' := HC3
  clear R3
  go_wp2_with fail
  refine HC3.mono ?_; rintro e w4 ⟨rfl, R4⟩
  clear HC3
  clear e0 e1 e2 e3 e4 e5 e6 e7 e8 ez le r0 r1 r2 r3 r4 r5 rz lr
  obtain ⟨e0, e1, e2, e3, e4, e5, e6, e7, e8, ez⟩ := cells9 (R4.box (b := b1) (o := .cells #[.int .i64 4, .int .i64 1, .int .i64 0, .int .i64 0, .int .u64 0, .string ⟨#[]⟩, .int .i64 0, .int .u64 0, .string ⟨#[]⟩] 85) (by simp)).1
  have le := (R4.box (b := b1) (o := .cells #[.int .i64 4, .int .i64 1, .int .i64 0, .int .i64 0, .int .u64 0, .string ⟨#[]⟩, .int .i64 0, .int .u64 0, .string ⟨#[]⟩] 85) (by simp)).2
  obtain ⟨r0, r1, r2, r3, r4, r5, rz⟩ := cells6 (R4.box (b := b0) (o := .cells #[.int .i64 xT, .int .u64 (xN : Int), .string ⟨xS.toArray⟩, .int .i64 yT, .int .u64 (yN : Int), .string ⟨yS.toArray⟩] 35) (by simp)).1
  have lr := (R4.box (b := b0) (o := .cells #[.int .i64 xT, .int .u64 (xN : Int), .string ⟨xS.toArray⟩, .int .i64 yT, .int .u64 (yN : Int), .string ⟨yS.toArray⟩] 35) (by simp)).2
  have R5 : RL own W m a nb tp [(b1, .cells #[.int .i64 3, .int .i64 0, .int .i64 0, .int .i64 xT, .int .u64 (xN : Int), .string ⟨xS.toArray⟩, .int .i64 0, .int .u64 0, .string ⟨#[]⟩] 85), (b0, .cells #[.int .i64 xT, .int .u64 (xN : Int), .string ⟨xS.toArray⟩, .int .i64 yT, .int .u64 (yN : Int), .string ⟨yS.toArray⟩] 35)] M3 (((((((((w4.setCell ⟨b1, 0, none⟩ (.int .i64 3)).setCell ⟨b1, 1, none⟩ (.int .i64 0)).setCell ⟨b1, 2, none⟩ (.int .i64 0)).setCell ⟨b1, 3, none⟩ (.int .i64 xT)).setCell ⟨b1, 4, none⟩ (.int .u64 (xN : Int))).setCell ⟨b1, 5, none⟩ (.string ⟨xS.toArray⟩)).setCell ⟨b1, 6, none⟩ (.int .i64 0)).setCell ⟨b1, 7, none⟩ (.int .u64 0)).setCell ⟨b1, 8, none⟩ (.string ⟨#[]⟩)) := R4.setE (n := b1) (by first | exact List.mem_cons_self | exact List.mem_cons_of_mem _ List.mem_cons_self) (B' := [(b0, .cells #[.int .i64 xT, .int .u64 (xN : Int), .string ⟨xS.toArray⟩, .int .i64 yT, .int .u64 (yN : Int), .string ⟨yS.toArray⟩] 35)]) (fun p hp => by
    have hd := HD.out
    rw [List.mem_singleton] at hp
    subst hp
    exact ⟨by simp, by show b0 ≠ b1; omega⟩) (.int .i64 3) (.int .i64 0) (.int .i64 0) (.int .i64 xT) (.int .u64 (xN : Int)) (.string ⟨xS.toArray⟩) (.int .i64 0) (.int .u64 0) (.string ⟨#[]⟩)
  clear R4
  go_upto_region 6 with fail
  clear e0 e1 e2 e3 e4 e5 e6 e7 e8 ez le r0 r1 r2 r3 r4 r5 rz lr
  generalize (((((((((w4.setCell ⟨b1, 0, none⟩ (.int .i64 3)).setCell ⟨b1, 1, none⟩ (.int .i64 0)).setCell ⟨b1, 2, none⟩ (.int .i64 0)).setCell ⟨b1, 3, none⟩ (.int .i64 xT)).setCell ⟨b1, 4, none⟩ (.int .u64 (xN : Int))).setCell ⟨b1, 5, none⟩ (.string ⟨xS.toArray⟩)).setCell ⟨b1, 6, none⟩ (.int .i64 0)).setCell ⟨b1, 7, none⟩ (.int .u64 0)).setCell ⟨b1, 8, none⟩ (.string ⟨#[]⟩)) = w5 at *
  obtain ⟨e0, e1, e2, e3, e4, e5, e6, e7, e8, ez⟩ := cells9 (R5.box (b := b1) (o := .cells #[.int .i64 3, .int .i64 0, .int .i64 0, .int .i64 xT, .int .u64 (xN : Int), .string ⟨xS.toArray⟩, .int .i64 0, .int .u64 0, .string ⟨#[]⟩] 85) (by simp)).1
  have le := (R5.box (b := b1) (o := .cells #[.int .i64 3, .int .i64 0, .int .i64 0, .int .i64 xT, .int .u64 (xN : Int), .string ⟨xS.toArray⟩, .int .i64 0, .int .u64 0, .string ⟨#[]⟩] 85) (by simp)).2
  obtain ⟨r0, r1, r2, r3, r4, r5, rz⟩ := cells6 (R5.box (b := b0) (o := .cells #[.int .i64 xT, .int .u64 (xN : Int), .string ⟨xS.toArray⟩, .int .i64 yT, .int .u64 (yN : Int), .string ⟨yS.toArray⟩] 35) (by simp)).1
  have lr := (R5.box (b := b0) (o := .cells #[.int .i64 xT, .int .u64 (xN : Int), .string ⟨xS.toArray⟩, .int .i64 yT, .int .u64 (yN : Int), .string ⟨yS.toArray⟩] 35) (by simp)).2
  go_wp2_with fail
  refine (HFX.out _).mono ?_; rintro e w6 ⟨rfl, hb6⟩
  have R6 := R5.below hb6
  clear R5 hb6
  clear e0 e1 e2 e3 e4 e5 e6 e7 e8 ez le r0 r1 r2 r3 r4 r5 rz lr
  obtain ⟨e0, e1, e2, e3, e4, e5, e6, e7, e8, ez⟩ := cells9 (R6.box (b := b1) (o := .cells #[.int .i64 3, .int .i64 0, .int .i64 0, .int .i64 xT, .int .u64 (xN : Int), .string ⟨xS.toArray⟩, .int .i64 0, .int .u64 0, .string ⟨#[]⟩] 85) (by simp)).1
  have le := (R6.box (b := b1) (o := .cells #[.int .i64 3, .int .i64 0, .int .i64 0, .int .i64 xT, .int .u64 (xN : Int), .string ⟨xS.toArray⟩, .int .i64 0, .int .u64 0, .string ⟨#[]⟩] 85) (by simp)).2
  obtain ⟨r0, r1, r2, r3, r4, r5, rz⟩ := cells6 (R6.box (b := b0) (o := .cells #[.int .i64 xT, .int .u64 (xN : Int), .string ⟨xS.toArray⟩, .int .i64 yT, .int .u64 (yN : Int), .string ⟨yS.toArray⟩] 35) (by simp)).1
  have lr := (R6.box (b := b0) (o := .cells #[.int .i64 xT, .int .u64 (xN : Int), .string ⟨xS.toArray⟩, .int .i64 yT, .int .u64 (yN : Int), .string ⟨yS.toArray⟩] 35) (by simp)).2
  go_wp2_with fail
  refine (HFY.out _).mono ?_; rintro e w7 ⟨rfl, hb7⟩
  have R7 := R6.below hb7
  clear R6 hb7
  clear e0 e1 e2 e3 e4 e5 e6 e7 e8 ez le r0 r1 r2 r3 r4 r5 rz lr
  obtain ⟨e0, e1, e2, e3, e4, e5, e6, e7, e8, ez⟩ := cells9 (R7.box (b := b1) (o := .cells #[.int .i64 3, .int .i64 0, .int .i64 0, .int .i64 xT, .int .u64 (xN : Int), .string ⟨xS.toArray⟩, .int .i64 0, .int .u64 0, .string ⟨#[]⟩] 85) (by simp)).1
  have le := (R7.box (b := b1) (o := .cells #[.int .i64 3, .int .i64 0, .int .i64 0, .int .i64 xT, .int .u64 (xN : Int), .string ⟨xS.toArray⟩, .int .i64 0, .int .u64 0, .string ⟨#[]⟩] 85) (by simp)).2
  obtain ⟨r0, r1, r2, r3, r4, r5, rz⟩ := cells6 (R7.box (b := b0) (o := .cells #[.int .i64 xT, .int .u64 (xN : Int), .string ⟨xS.toArray⟩, .int .i64 yT, .int .u64 (yN : Int), .string ⟨yS.toArray⟩] 35) (by simp)).1
  have lr := (R7.box (b := b0) (o := .cells #[.int .i64 xT, .int .u64 (xN : Int), .string ⟨xS.toArray⟩, .int .i64 yT, .int .u64 (yN : Int), .string ⟨yS.toArray⟩] 35) (by simp)).2
  have HC4 := R7.exec HK.out.1 1 ⟨yT, yN, yS⟩ ⟨xT, xN, xS⟩ HOK.out.2 HOK.out.1
  rw [HP.out.2.1] at HC4
  have HC4 : Calls Tryz.prog 37 #[.pointer (some ⟨m, 0, none⟩), .int .i64 1, .agg #[.int .i64 yT, .int .u64 (yN : Int), .string ⟨yS.toArray⟩], .agg #[.int .i64 xT, .int .u64 (xN : Int), .string ⟨xS.toArray⟩]] w7 fun e w' => e = .returned (.agg #[.int .i64 1, .int .i64 0, .int .i64 0, .int .i64 1, .int .u64 0, .string ⟨#[]⟩, .int .i64 yT, .int .u64 (yN : Int), .string ⟨yS.toArray⟩]) ∧ RL own W m a nb tp [(b1, .cells #[.int .i64 3, .int .i64 0, .int .i64 0, .int .i64 xT, .int .u64 (xN : Int), .string ⟨xS.toArray⟩, .int .i64 0, .int .u64 0, .string ⟨#[]⟩] 85), (b0, .cells #[.int .i64 xT, .int .u64 (xN : Int), .string ⟨xS.toArray⟩, .int .i64 yT, .int .u64 (yN : Int), .string ⟨yS.toArray⟩] 35)] M4 w' := HC4
  clear R7
  go_wp2_with fail
  refine HC4.mono ?_; rintro e w8 ⟨rfl, R8⟩
  clear HC4
  clear e0 e1 e2 e3 e4 e5 e6 e7 e8 ez le r0 r1 r2 r3 r4 r5 rz lr
  obtain ⟨e0, e1, e2, e3, e4, e5, e6, e7, e8, ez⟩ := cells9 (R8.box (b := b1) (o := .cells #[.int .i64 3, .int .i64 0, .int .i64 0, .int .i64 xT, .int .u64 (xN : Int), .string ⟨xS.toArray⟩, .int .i64 0, .int .u64 0, .string ⟨#[]⟩] 85) (by simp)).1
  have le := (R8.box (b := b1) (o := .cells #[.int .i64 3, .int .i64 0, .int .i64 0, .int .i64 xT, .int .u64 (xN : Int), .string ⟨xS.toArray⟩, .int .i64 0, .int .u64 0, .string ⟨#[]⟩] 85) (by simp)).2
  obtain ⟨r0, r1, r2, r3, r4, r5, rz⟩ := cells6 (R8.box (b := b0) (o := .cells #[.int .i64 xT, .int .u64 (xN : Int), .string ⟨xS.toArray⟩, .int .i64 yT, .int .u64 (yN : Int), .string ⟨yS.toArray⟩] 35) (by simp)).1
  have lr := (R8.box (b := b0) (o := .cells #[.int .i64 xT, .int .u64 (xN : Int), .string ⟨xS.toArray⟩, .int .i64 yT, .int .u64 (yN : Int), .string ⟨yS.toArray⟩] 35) (by simp)).2
  have R9 : RL own W m a nb tp [(b1, .cells #[.int .i64 1, .int .i64 0, .int .i64 0, .int .i64 1, .int .u64 0, .string ⟨#[]⟩, .int .i64 yT, .int .u64 (yN : Int), .string ⟨yS.toArray⟩] 85), (b0, .cells #[.int .i64 xT, .int .u64 (xN : Int), .string ⟨xS.toArray⟩, .int .i64 yT, .int .u64 (yN : Int), .string ⟨yS.toArray⟩] 35)] M4 (((((((((w8.setCell ⟨b1, 0, none⟩ (.int .i64 1)).setCell ⟨b1, 1, none⟩ (.int .i64 0)).setCell ⟨b1, 2, none⟩ (.int .i64 0)).setCell ⟨b1, 3, none⟩ (.int .i64 1)).setCell ⟨b1, 4, none⟩ (.int .u64 0)).setCell ⟨b1, 5, none⟩ (.string ⟨#[]⟩)).setCell ⟨b1, 6, none⟩ (.int .i64 yT)).setCell ⟨b1, 7, none⟩ (.int .u64 (yN : Int))).setCell ⟨b1, 8, none⟩ (.string ⟨yS.toArray⟩)) := R8.setE (n := b1) (by first | exact List.mem_cons_self | exact List.mem_cons_of_mem _ List.mem_cons_self) (B' := [(b0, .cells #[.int .i64 xT, .int .u64 (xN : Int), .string ⟨xS.toArray⟩, .int .i64 yT, .int .u64 (yN : Int), .string ⟨yS.toArray⟩] 35)]) (fun p hp => by
    have hd := HD.out
    rw [List.mem_singleton] at hp
    subst hp
    exact ⟨by simp, by show b0 ≠ b1; omega⟩) (.int .i64 1) (.int .i64 0) (.int .i64 0) (.int .i64 1) (.int .u64 0) (.string ⟨#[]⟩) (.int .i64 yT) (.int .u64 (yN : Int)) (.string ⟨yS.toArray⟩)
  clear R8
  go_upto_region 13 with fail
  clear e0 e1 e2 e3 e4 e5 e6 e7 e8 ez le r0 r1 r2 r3 r4 r5 rz lr
  generalize (((((((((w8.setCell ⟨b1, 0, none⟩ (.int .i64 1)).setCell ⟨b1, 1, none⟩ (.int .i64 0)).setCell ⟨b1, 2, none⟩ (.int .i64 0)).setCell ⟨b1, 3, none⟩ (.int .i64 1)).setCell ⟨b1, 4, none⟩ (.int .u64 0)).setCell ⟨b1, 5, none⟩ (.string ⟨#[]⟩)).setCell ⟨b1, 6, none⟩ (.int .i64 yT)).setCell ⟨b1, 7, none⟩ (.int .u64 (yN : Int))).setCell ⟨b1, 8, none⟩ (.string ⟨yS.toArray⟩)) = w9 at *
  obtain ⟨e0, e1, e2, e3, e4, e5, e6, e7, e8, ez⟩ := cells9 (R9.box (b := b1) (o := .cells #[.int .i64 1, .int .i64 0, .int .i64 0, .int .i64 1, .int .u64 0, .string ⟨#[]⟩, .int .i64 yT, .int .u64 (yN : Int), .string ⟨yS.toArray⟩] 85) (by simp)).1
  have le := (R9.box (b := b1) (o := .cells #[.int .i64 1, .int .i64 0, .int .i64 0, .int .i64 1, .int .u64 0, .string ⟨#[]⟩, .int .i64 yT, .int .u64 (yN : Int), .string ⟨yS.toArray⟩] 85) (by simp)).2
  obtain ⟨r0, r1, r2, r3, r4, r5, rz⟩ := cells6 (R9.box (b := b0) (o := .cells #[.int .i64 xT, .int .u64 (xN : Int), .string ⟨xS.toArray⟩, .int .i64 yT, .int .u64 (yN : Int), .string ⟨yS.toArray⟩] 35) (by simp)).1
  have lr := (R9.box (b := b0) (o := .cells #[.int .i64 xT, .int .u64 (xN : Int), .string ⟨xS.toArray⟩, .int .i64 yT, .int .u64 (yN : Int), .string ⟨yS.toArray⟩] 35) (by simp)).2
  go_wp2_with fail
  refine (HTY.out _).mono ?_; rintro e w10 ⟨rfl, hb10⟩
  have R10 := R9.below hb10
  clear R9 hb10
  clear e0 e1 e2 e3 e4 e5 e6 e7 e8 ez le r0 r1 r2 r3 r4 r5 rz lr
  have HBO : Calls Tryz.prog 40 #[.bool false] w10 fun e w' => e = .returned (.agg #[.int .i64 1, .int .u64 0, .string ⟨#[]⟩]) ∧ Below w10.heap.size w10 w' := bool_any false w10
  go_wp2_with fail
  refine HBO.mono ?_; rintro e w11 ⟨rfl, hb11⟩
  have R11 := R10.below hb11
  have hne : b1 < w11.heap.size := (R11.box (b := b1) (o := .cells #[.int .i64 1, .int .i64 0, .int .i64 0, .int .i64 1, .int .u64 0, .string ⟨#[]⟩, .int .i64 yT, .int .u64 (yN : Int), .string ⟨yS.toArray⟩] 85) (by simp)).2
  clear R10 hb11 HBO
  go_upto_region 15 with fail
  have R12 : RL own W m a nb tp [(w11.heap.size, .cells #[.int .i64 1, .int .u64 0, .string ⟨#[]⟩] 33), (b1, .cells #[.int .i64 1, .int .i64 0, .int .i64 0, .int .i64 1, .int .u64 0, .string ⟨#[]⟩, .int .i64 yT, .int .u64 (yN : Int), .string ⟨yS.toArray⟩] 85), (b0, .cells #[.int .i64 xT, .int .u64 (xN : Int), .string ⟨xS.toArray⟩, .int .i64 yT, .int .u64 (yN : Int), .string ⟨yS.toArray⟩] 35)] M4 (w11.alloc (.cells #[.int .i64 1, .int .u64 0, .string ⟨#[]⟩] 33)) := R11.alloc _ rfl
  generalize w11.alloc (.cells #[.int .i64 1, .int .u64 0, .string ⟨#[]⟩] 33) = w12 at *
  generalize w11.heap.size = b2 at *
  have HD : Hid (b0 < b1 ∧ b1 < b2) := ⟨HD.out, hne⟩
  clear R11 hne
  obtain ⟨c0, c1, c2, cz⟩ := cells3 (R12.box (b := b2) (o := .cells #[.int .i64 1, .int .u64 0, .string ⟨#[]⟩] 33) (by simp)).1
  have lc := (R12.box (b := b2) (o := .cells #[.int .i64 1, .int .u64 0, .string ⟨#[]⟩] 33) (by simp)).2
  obtain ⟨e0, e1, e2, e3, e4, e5, e6, e7, e8, ez⟩ := cells9 (R12.box (b := b1) (o := .cells #[.int .i64 1, .int .i64 0, .int .i64 0, .int .i64 1, .int .u64 0, .string ⟨#[]⟩, .int .i64 yT, .int .u64 (yN : Int), .string ⟨yS.toArray⟩] 85) (by simp)).1
  have le := (R12.box (b := b1) (o := .cells #[.int .i64 1, .int .i64 0, .int .i64 0, .int .i64 1, .int .u64 0, .string ⟨#[]⟩, .int .i64 yT, .int .u64 (yN : Int), .string ⟨yS.toArray⟩] 85) (by simp)).2
  obtain ⟨r0, r1, r2, r3, r4, r5, rz⟩ := cells6 (R12.box (b := b0) (o := .cells #[.int .i64 xT, .int .u64 (xN : Int), .string ⟨xS.toArray⟩, .int .i64 yT, .int .u64 (yN : Int), .string ⟨yS.toArray⟩] 35) (by simp)).1
  have lr := (R12.box (b := b0) (o := .cells #[.int .i64 xT, .int .u64 (xN : Int), .string ⟨xS.toArray⟩, .int .i64 yT, .int .u64 (yN : Int), .string ⟨yS.toArray⟩] 35) (by simp)).2
  have HC5 := R12.exec HK.out.2 0 ⟨xT, xN, xS⟩ ⟨yT, yN, yS⟩ HOK.out.1 HOK.out.2
  rw [HP.out.2.2.1, HP.out.2.2.2.2] at HC5
  have HC5 : Calls Tryz.prog 37 #[.pointer (some ⟨m, 0, none⟩), .int .i64 0, .agg #[.int .i64 xT, .int .u64 (xN : Int), .string ⟨xS.toArray⟩], .agg #[.int .i64 yT, .int .u64 (yN : Int), .string ⟨yS.toArray⟩]] w12 fun e w' => e = .returned (.agg #[.int .i64 1, .int .i64 0, .int .i64 0, .int .i64 yT, .int .u64 (yN : Int), .string ⟨yS.toArray⟩, .int .i64 1, .int .u64 1, .string ⟨#[]⟩]) ∧ RL own W m a nb tp [(b2, .cells #[.int .i64 1, .int .u64 0, .string ⟨#[]⟩] 33), (b1, .cells #[.int .i64 1, .int .i64 0, .int .i64 0, .int .i64 1, .int .u64 0, .string ⟨#[]⟩, .int .i64 yT, .int .u64 (yN : Int), .string ⟨yS.toArray⟩] 85), (b0, .cells #[.int .i64 xT, .int .u64 (xN : Int), .string ⟨xS.toArray⟩, .int .i64 yT, .int .u64 (yN : Int), .string ⟨yS.toArray⟩] 35)] M5 w' := HC5
  clear R12
  go_wp2_with fail
  refine HC5.mono ?_; rintro e w13 ⟨rfl, R13⟩
  clear HC5
  clear c0 c1 c2 cz lc e0 e1 e2 e3 e4 e5 e6 e7 e8 ez le r0 r1 r2 r3 r4 r5 rz lr
  obtain ⟨c0, c1, c2, cz⟩ := cells3 (R13.box (b := b2) (o := .cells #[.int .i64 1, .int .u64 0, .string ⟨#[]⟩] 33) (by simp)).1
  have lc := (R13.box (b := b2) (o := .cells #[.int .i64 1, .int .u64 0, .string ⟨#[]⟩] 33) (by simp)).2
  obtain ⟨e0, e1, e2, e3, e4, e5, e6, e7, e8, ez⟩ := cells9 (R13.box (b := b1) (o := .cells #[.int .i64 1, .int .i64 0, .int .i64 0, .int .i64 1, .int .u64 0, .string ⟨#[]⟩, .int .i64 yT, .int .u64 (yN : Int), .string ⟨yS.toArray⟩] 85) (by simp)).1
  have le := (R13.box (b := b1) (o := .cells #[.int .i64 1, .int .i64 0, .int .i64 0, .int .i64 1, .int .u64 0, .string ⟨#[]⟩, .int .i64 yT, .int .u64 (yN : Int), .string ⟨yS.toArray⟩] 85) (by simp)).2
  obtain ⟨r0, r1, r2, r3, r4, r5, rz⟩ := cells6 (R13.box (b := b0) (o := .cells #[.int .i64 xT, .int .u64 (xN : Int), .string ⟨xS.toArray⟩, .int .i64 yT, .int .u64 (yN : Int), .string ⟨yS.toArray⟩] 35) (by simp)).1
  have lr := (R13.box (b := b0) (o := .cells #[.int .i64 xT, .int .u64 (xN : Int), .string ⟨xS.toArray⟩, .int .i64 yT, .int .u64 (yN : Int), .string ⟨yS.toArray⟩] 35) (by simp)).2
  have R14 : RL own W m a nb tp [(b1, .cells #[.int .i64 1, .int .i64 0, .int .i64 0, .int .i64 yT, .int .u64 (yN : Int), .string ⟨yS.toArray⟩, .int .i64 1, .int .u64 1, .string ⟨#[]⟩] 85), (b2, .cells #[.int .i64 1, .int .u64 0, .string ⟨#[]⟩] 33), (b0, .cells #[.int .i64 xT, .int .u64 (xN : Int), .string ⟨xS.toArray⟩, .int .i64 yT, .int .u64 (yN : Int), .string ⟨yS.toArray⟩] 35)] M5 (((((((((w13.setCell ⟨b1, 0, none⟩ (.int .i64 1)).setCell ⟨b1, 1, none⟩ (.int .i64 0)).setCell ⟨b1, 2, none⟩ (.int .i64 0)).setCell ⟨b1, 3, none⟩ (.int .i64 yT)).setCell ⟨b1, 4, none⟩ (.int .u64 (yN : Int))).setCell ⟨b1, 5, none⟩ (.string ⟨yS.toArray⟩)).setCell ⟨b1, 6, none⟩ (.int .i64 1)).setCell ⟨b1, 7, none⟩ (.int .u64 1)).setCell ⟨b1, 8, none⟩ (.string ⟨#[]⟩)) := R13.setE (n := b1) (by first | exact List.mem_cons_self | exact List.mem_cons_of_mem _ List.mem_cons_self) (B' := [(b2, .cells #[.int .i64 1, .int .u64 0, .string ⟨#[]⟩] 33), (b0, .cells #[.int .i64 xT, .int .u64 (xN : Int), .string ⟨xS.toArray⟩, .int .i64 yT, .int .u64 (yN : Int), .string ⟨yS.toArray⟩] 35)]) (fun p hp => by
    simp only [List.mem_cons, List.not_mem_nil, or_false] at hp
    have hd := HD.out
    rcases hp with rfl | rfl
    · exact ⟨by simp, by show b2 ≠ b1; omega⟩
    · exact ⟨by simp, by show b0 ≠ b1; omega⟩
    ) (.int .i64 1) (.int .i64 0) (.int .i64 0) (.int .i64 yT) (.int .u64 (yN : Int)) (.string ⟨yS.toArray⟩) (.int .i64 1) (.int .u64 1) (.string ⟨#[]⟩)
  clear R13
  go_upto_region 18 with fail
  clear c0 c1 c2 cz lc e0 e1 e2 e3 e4 e5 e6 e7 e8 ez le r0 r1 r2 r3 r4 r5 rz lr
  generalize (((((((((w13.setCell ⟨b1, 0, none⟩ (.int .i64 1)).setCell ⟨b1, 1, none⟩ (.int .i64 0)).setCell ⟨b1, 2, none⟩ (.int .i64 0)).setCell ⟨b1, 3, none⟩ (.int .i64 yT)).setCell ⟨b1, 4, none⟩ (.int .u64 (yN : Int))).setCell ⟨b1, 5, none⟩ (.string ⟨yS.toArray⟩)).setCell ⟨b1, 6, none⟩ (.int .i64 1)).setCell ⟨b1, 7, none⟩ (.int .u64 1)).setCell ⟨b1, 8, none⟩ (.string ⟨#[]⟩)) = w14 at *
  obtain ⟨e0, e1, e2, e3, e4, e5, e6, e7, e8, ez⟩ := cells9 (R14.box (b := b1) (o := .cells #[.int .i64 1, .int .i64 0, .int .i64 0, .int .i64 yT, .int .u64 (yN : Int), .string ⟨yS.toArray⟩, .int .i64 1, .int .u64 1, .string ⟨#[]⟩] 85) (by simp)).1
  have le := (R14.box (b := b1) (o := .cells #[.int .i64 1, .int .i64 0, .int .i64 0, .int .i64 yT, .int .u64 (yN : Int), .string ⟨yS.toArray⟩, .int .i64 1, .int .u64 1, .string ⟨#[]⟩] 85) (by simp)).2
  obtain ⟨c0, c1, c2, cz⟩ := cells3 (R14.box (b := b2) (o := .cells #[.int .i64 1, .int .u64 0, .string ⟨#[]⟩] 33) (by simp)).1
  have lc := (R14.box (b := b2) (o := .cells #[.int .i64 1, .int .u64 0, .string ⟨#[]⟩] 33) (by simp)).2
  obtain ⟨r0, r1, r2, r3, r4, r5, rz⟩ := cells6 (R14.box (b := b0) (o := .cells #[.int .i64 xT, .int .u64 (xN : Int), .string ⟨xS.toArray⟩, .int .i64 yT, .int .u64 (yN : Int), .string ⟨yS.toArray⟩] 35) (by simp)).1
  have lr := (R14.box (b := b0) (o := .cells #[.int .i64 xT, .int .u64 (xN : Int), .string ⟨xS.toArray⟩, .int .i64 yT, .int .u64 (yN : Int), .string ⟨yS.toArray⟩] 35) (by simp)).2
  have hne : b2 < w14.heap.size := (R14.box (b := b2) (o := .cells #[.int .i64 1, .int .u64 0, .string ⟨#[]⟩] 33) (by simp)).2
  go_upto_region 19 with fail
  clear c0 c1 c2 cz lc e0 e1 e2 e3 e4 e5 e6 e7 e8 ez le r0 r1 r2 r3 r4 r5 rz lr
  have R15 : RL own W m a nb tp [(w14.heap.size, .cells #[.int .i64 xT, .int .u64 (xN : Int), .string ⟨xS.toArray⟩] 33), (b1, .cells #[.int .i64 1, .int .i64 0, .int .i64 0, .int .i64 yT, .int .u64 (yN : Int), .string ⟨yS.toArray⟩, .int .i64 1, .int .u64 1, .string ⟨#[]⟩] 85), (b2, .cells #[.int .i64 1, .int .u64 0, .string ⟨#[]⟩] 33), (b0, .cells #[.int .i64 xT, .int .u64 (xN : Int), .string ⟨xS.toArray⟩, .int .i64 yT, .int .u64 (yN : Int), .string ⟨yS.toArray⟩] 35)] M5 (w14.alloc (.cells #[.int .i64 xT, .int .u64 (xN : Int), .string ⟨xS.toArray⟩] 33)) := R14.alloc _ rfl
  generalize w14.alloc (.cells #[.int .i64 xT, .int .u64 (xN : Int), .string ⟨xS.toArray⟩] 33) = w15 at *
  generalize w14.heap.size = b3 at *
  have HD : Hid (b0 < b1 ∧ b1 < b2 ∧ b2 < b3) := ⟨HD.out.1, HD.out.2, hne⟩
  clear R14 hne
  obtain ⟨n0, n1, n2, nz⟩ := cells3 (R15.box (b := b3) (o := .cells #[.int .i64 xT, .int .u64 (xN : Int), .string ⟨xS.toArray⟩] 33) (by simp)).1
  have ln := (R15.box (b := b3) (o := .cells #[.int .i64 xT, .int .u64 (xN : Int), .string ⟨xS.toArray⟩] 33) (by simp)).2
  obtain ⟨e0, e1, e2, e3, e4, e5, e6, e7, e8, ez⟩ := cells9 (R15.box (b := b1) (o := .cells #[.int .i64 1, .int .i64 0, .int .i64 0, .int .i64 yT, .int .u64 (yN : Int), .string ⟨yS.toArray⟩, .int .i64 1, .int .u64 1, .string ⟨#[]⟩] 85) (by simp)).1
  have le := (R15.box (b := b1) (o := .cells #[.int .i64 1, .int .i64 0, .int .i64 0, .int .i64 yT, .int .u64 (yN : Int), .string ⟨yS.toArray⟩, .int .i64 1, .int .u64 1, .string ⟨#[]⟩] 85) (by simp)).2
  obtain ⟨c0, c1, c2, cz⟩ := cells3 (R15.box (b := b2) (o := .cells #[.int .i64 1, .int .u64 0, .string ⟨#[]⟩] 33) (by simp)).1
  have lc := (R15.box (b := b2) (o := .cells #[.int .i64 1, .int .u64 0, .string ⟨#[]⟩] 33) (by simp)).2
  obtain ⟨r0, r1, r2, r3, r4, r5, rz⟩ := cells6 (R15.box (b := b0) (o := .cells #[.int .i64 xT, .int .u64 (xN : Int), .string ⟨xS.toArray⟩, .int .i64 yT, .int .u64 (yN : Int), .string ⟨yS.toArray⟩] 35) (by simp)).1
  have lr := (R15.box (b := b0) (o := .cells #[.int .i64 xT, .int .u64 (xN : Int), .string ⟨xS.toArray⟩, .int .i64 yT, .int .u64 (yN : Int), .string ⟨yS.toArray⟩] 35) (by simp)).2
  go_wp2_with fail
  refine (HTX.out _).mono ?_; rintro e w16 ⟨rfl, hb16⟩
  have R16 := R15.below hb16
  clear R15 hb16
  clear n0 n1 n2 nz ln e0 e1 e2 e3 e4 e5 e6 e7 e8 ez le c0 c1 c2 cz lc r0 r1 r2 r3 r4 r5 rz lr
  obtain ⟨n0, n1, n2, nz⟩ := cells3 (R16.box (b := b3) (o := .cells #[.int .i64 xT, .int .u64 (xN : Int), .string ⟨xS.toArray⟩] 33) (by simp)).1
  have ln := (R16.box (b := b3) (o := .cells #[.int .i64 xT, .int .u64 (xN : Int), .string ⟨xS.toArray⟩] 33) (by simp)).2
  obtain ⟨e0, e1, e2, e3, e4, e5, e6, e7, e8, ez⟩ := cells9 (R16.box (b := b1) (o := .cells #[.int .i64 1, .int .i64 0, .int .i64 0, .int .i64 yT, .int .u64 (yN : Int), .string ⟨yS.toArray⟩, .int .i64 1, .int .u64 1, .string ⟨#[]⟩] 85) (by simp)).1
  have le := (R16.box (b := b1) (o := .cells #[.int .i64 1, .int .i64 0, .int .i64 0, .int .i64 yT, .int .u64 (yN : Int), .string ⟨yS.toArray⟩, .int .i64 1, .int .u64 1, .string ⟨#[]⟩] 85) (by simp)).2
  obtain ⟨c0, c1, c2, cz⟩ := cells3 (R16.box (b := b2) (o := .cells #[.int .i64 1, .int .u64 0, .string ⟨#[]⟩] 33) (by simp)).1
  have lc := (R16.box (b := b2) (o := .cells #[.int .i64 1, .int .u64 0, .string ⟨#[]⟩] 33) (by simp)).2
  obtain ⟨r0, r1, r2, r3, r4, r5, rz⟩ := cells6 (R16.box (b := b0) (o := .cells #[.int .i64 xT, .int .u64 (xN : Int), .string ⟨xS.toArray⟩, .int .i64 yT, .int .u64 (yN : Int), .string ⟨yS.toArray⟩] 35) (by simp)).1
  have lr := (R16.box (b := b0) (o := .cells #[.int .i64 xT, .int .u64 (xN : Int), .string ⟨xS.toArray⟩, .int .i64 yT, .int .u64 (yN : Int), .string ⟨yS.toArray⟩] 35) (by simp)).2
  have R17 : RL own W m a nb tp [(b3, .cells #[.int .i64 yT, .int .u64 (yN : Int), .string ⟨yS.toArray⟩] 33), (b1, .cells #[.int .i64 1, .int .i64 0, .int .i64 0, .int .i64 yT, .int .u64 (yN : Int), .string ⟨yS.toArray⟩, .int .i64 1, .int .u64 1, .string ⟨#[]⟩] 85), (b2, .cells #[.int .i64 1, .int .u64 0, .string ⟨#[]⟩] 33), (b0, .cells #[.int .i64 xT, .int .u64 (xN : Int), .string ⟨xS.toArray⟩, .int .i64 yT, .int .u64 (yN : Int), .string ⟨yS.toArray⟩] 35)] M5 (((w16.setCell ⟨b3, 0, none⟩ (.int .i64 yT)).setCell ⟨b3, 1, none⟩ (.int .u64 (yN : Int))).setCell ⟨b3, 2, none⟩ (.string ⟨yS.toArray⟩)) := R16.setV (n := b3) List.mem_cons_self (B' := [(b1, .cells #[.int .i64 1, .int .i64 0, .int .i64 0, .int .i64 yT, .int .u64 (yN : Int), .string ⟨yS.toArray⟩, .int .i64 1, .int .u64 1, .string ⟨#[]⟩] 85), (b2, .cells #[.int .i64 1, .int .u64 0, .string ⟨#[]⟩] 33), (b0, .cells #[.int .i64 xT, .int .u64 (xN : Int), .string ⟨xS.toArray⟩, .int .i64 yT, .int .u64 (yN : Int), .string ⟨yS.toArray⟩] 35)]) (fun p hp => by
    simp only [List.mem_cons, List.not_mem_nil, or_false] at hp
    have hd := HD.out
    rcases hp with rfl | rfl | rfl
    · exact ⟨by simp, by show b1 ≠ b3; omega⟩
    · exact ⟨by simp, by show b2 ≠ b3; omega⟩
    · exact ⟨by simp, by show b0 ≠ b3; omega⟩
    ) (.int .i64 yT) (.int .u64 (yN : Int)) (.string ⟨yS.toArray⟩)
  clear R16
  go_upto_region 21 with fail
  clear n0 n1 n2 nz ln e0 e1 e2 e3 e4 e5 e6 e7 e8 ez le c0 c1 c2 cz lc r0 r1 r2 r3 r4 r5 rz lr
  generalize (((w16.setCell ⟨b3, 0, none⟩ (.int .i64 yT)).setCell ⟨b3, 1, none⟩ (.int .u64 (yN : Int))).setCell ⟨b3, 2, none⟩ (.string ⟨yS.toArray⟩)) = w17 at *
  obtain ⟨n0, n1, n2, nz⟩ := cells3 (R17.box (b := b3) (o := .cells #[.int .i64 yT, .int .u64 (yN : Int), .string ⟨yS.toArray⟩] 33) (by simp)).1
  have ln := (R17.box (b := b3) (o := .cells #[.int .i64 yT, .int .u64 (yN : Int), .string ⟨yS.toArray⟩] 33) (by simp)).2
  obtain ⟨e0, e1, e2, e3, e4, e5, e6, e7, e8, ez⟩ := cells9 (R17.box (b := b1) (o := .cells #[.int .i64 1, .int .i64 0, .int .i64 0, .int .i64 yT, .int .u64 (yN : Int), .string ⟨yS.toArray⟩, .int .i64 1, .int .u64 1, .string ⟨#[]⟩] 85) (by simp)).1
  have le := (R17.box (b := b1) (o := .cells #[.int .i64 1, .int .i64 0, .int .i64 0, .int .i64 yT, .int .u64 (yN : Int), .string ⟨yS.toArray⟩, .int .i64 1, .int .u64 1, .string ⟨#[]⟩] 85) (by simp)).2
  obtain ⟨c0, c1, c2, cz⟩ := cells3 (R17.box (b := b2) (o := .cells #[.int .i64 1, .int .u64 0, .string ⟨#[]⟩] 33) (by simp)).1
  have lc := (R17.box (b := b2) (o := .cells #[.int .i64 1, .int .u64 0, .string ⟨#[]⟩] 33) (by simp)).2
  obtain ⟨r0, r1, r2, r3, r4, r5, rz⟩ := cells6 (R17.box (b := b0) (o := .cells #[.int .i64 xT, .int .u64 (xN : Int), .string ⟨xS.toArray⟩, .int .i64 yT, .int .u64 (yN : Int), .string ⟨yS.toArray⟩] 35) (by simp)).1
  have lr := (R17.box (b := b0) (o := .cells #[.int .i64 xT, .int .u64 (xN : Int), .string ⟨xS.toArray⟩, .int .i64 yT, .int .u64 (yN : Int), .string ⟨yS.toArray⟩] 35) (by simp)).2
  have HF := R17.fuel
  rw [HP.out.2.2.2.1] at HF
  have HF : Calls Tryz.prog 23 #[.pointer (some ⟨m, 0, none⟩)] w17 fun e w' => e = .returned (.int .i64 4) ∧ w' = w17 := HF
  have HNX : Hid (∃ M', Nx own W m a nb tp M' w17) := ⟨_, R17.nx⟩
  clear R17
  go_wp2_with fail
  refine HF.mono ?_; rintro e w18 ⟨rfl, hq⟩; have hq := hq.symm; subst hq
  clear HF
  go_wp2_with fail
  go_ret
  exact ⟨by simp, HNX.out⟩
theorem probe_any {own : Nat → Nat} {W : World} {m a nb tp : Nat} {M : Mc} (HV : Vm own W m a nb tp M) (x y : V) (hx : x.Ok) (hy : y.Ok) : Calls Tryz.prog 21 #[.pointer (some ⟨m, 0, none⟩), regV x y] W fun e w' => e = .returned (.bool true) ∧ ∃ M', Nx own W m a nb tp M' w' := by
  cases hf : fitP x
  · cases hg : fitP y
    · exact probe_b00 HV x y hx hy hf hg
    · exact probe_b01 HV x y hx hy hf hg
  · cases hg : fitP y
    · exact probe_b10 HV x y hx hy hf hg
    · cases hty : truthy y
      · cases htx : truthy x
        · exact probe_g00 HV x y hx hy hf hg hty htx
        · exact probe_g01 HV x y hx hy hf hg hty htx
      · cases htx : truthy x
        · exact probe_g10 HV x y hx hy hf hg hty htx
        · exact probe_g11 HV x y hx hy hf hg hty htx
end Go.Proofs.Qxb6500293aGreatRR
